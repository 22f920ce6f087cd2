/- Division by one digit; times. -/
import Derived.Test.YtlhobedecoeohaaNatB
set_option linter.unusedVariables false
set_option linter.unusedSimpArgs false
namespace Go.Proofs.Ytlhobedecoeohaa
open Go Go.Proofs.Ytlhobedecoeohaa.Lift

theorem short_ok (l : List Nat) (d : Nat) (hd : Dg l) (hl : l.length < 2 ^ 30) (h0 : 0 < d) (hdB : d < 4294967296) : PCall Try.prog 51 [dg l, .i .u32 d] (.tup [nv (val l / d), .i .u32 (val l % d : Nat)]) [] := by
  refine PCall.of_ax Try.call51 Try.func51 rfl (by simp [Try.ntmps51]) fun O w => ?_
  simp only [Try.ntmps51, Try.results51, argFr]
  apply AX.sreg [0, 1] (by simp only [pq]; rfl)
  · repeat (first
   | (apply RunO.op rfl; · rfl
      · rfl
      iterate 2 (· (simp (disch := omega) only [go_sem, i64_of, u32_of, u64_of, Nat.reduceLT, Nat.reduceLeDiff, Nat.reduceEqDiff, Nat.reduceAdd, Nat.reduceSub, Nat.reduceMul, Nat.reducePow, Nat.reduceBEq, Int.reduceLE, Int.reduceLT, Int.reduceToNat, Int.reduceEq, Int.reduceNeg, reduceIte, reduceCtorEq]; rfl))
      · (simp only [pb, Nat.reduceLT, Nat.reduceAdd, reduceIte]; rfl))
   | (apply RunO.skip; · rfl
      · (simp only [pb, Nat.reduceLT, Nat.reduceAdd, reduceIte]; rfl)))
    exact RunO.nil
  · repeat (first | exact Keep.nil | (apply Keep.take; · rfl) | (apply Keep.drop; · rfl))
  apply AX.sreg [0, 1, 6] (by simp only [pq]; rfl)
  · repeat (first
   | (apply RunO.op rfl; · rfl
      · rfl
      iterate 2 (· (simp (disch := omega) only [go_sem, i64_of, u32_of, u64_of, Nat.reduceLT, Nat.reduceLeDiff, Nat.reduceEqDiff, Nat.reduceAdd, Nat.reduceSub, Nat.reduceMul, Nat.reducePow, Nat.reduceBEq, Int.reduceLE, Int.reduceLT, Int.reduceToNat, Int.reduceEq, Int.reduceNeg, reduceIte, reduceCtorEq]; rfl))
      · (simp only [pb, Nat.reduceLT, Nat.reduceAdd, reduceIte]; rfl))
   | (apply RunO.skip; · rfl
      · (simp only [pb, Nat.reduceLT, Nat.reduceAdd, reduceIte]; rfl)))
    exact RunO.nil
  · repeat (first | exact Keep.nil | (apply Keep.take; · rfl) | (apply Keep.drop; · rfl))
  apply AX.sreg [0, 1, 6, 7] (by simp only [pq]; rfl)
  · repeat (first
   | (apply RunO.op rfl; · rfl
      · rfl
      iterate 2 (· (simp (disch := omega) only [go_sem, i64_of, u32_of, u64_of, Nat.reduceLT, Nat.reduceLeDiff, Nat.reduceEqDiff, Nat.reduceAdd, Nat.reduceSub, Nat.reduceMul, Nat.reducePow, Nat.reduceBEq, Int.reduceLE, Int.reduceLT, Int.reduceToNat, Int.reduceEq, Int.reduceNeg, reduceIte, reduceCtorEq]; rfl))
      · (simp only [pb, Nat.reduceLT, Nat.reduceAdd, reduceIte]; rfl))
   | (apply RunO.skip; · rfl
      · (simp only [pb, Nat.reduceLT, Nat.reduceAdd, reduceIte]; rfl)))
    exact RunO.nil
  · repeat (first | exact Keep.nil | (apply Keep.take; · rfl) | (apply Keep.drop; · rfl))
  refine AX.seq ?_
  apply AX.sreg [0, 1, 6, 7, 8] (by simp only [pq]; rfl)
  · repeat (first
   | (apply RunO.op rfl; · rfl
      · rfl
      iterate 2 (· (simp (disch := omega) only [go_sem, i64_of, u32_of, u64_of, Nat.reduceLT, Nat.reduceLeDiff, Nat.reduceEqDiff, Nat.reduceAdd, Nat.reduceSub, Nat.reduceMul, Nat.reducePow, Nat.reduceBEq, Int.reduceLE, Int.reduceLT, Int.reduceToNat, Int.reduceEq, Int.reduceNeg, reduceIte, reduceCtorEq]; rfl))
      · (simp only [pb, Nat.reduceLT, Nat.reduceAdd, reduceIte]; rfl))
   | (apply RunO.skip; · rfl
      · (simp only [pb, Nat.reduceLT, Nat.reduceAdd, reduceIte]; rfl)))
    exact RunO.nil
  · repeat (first | exact Keep.nil | (apply Keep.take; · rfl) | (apply Keep.drop; · rfl))
  refine AX.block ?_
  refine AX.loop (fun N st => ∃ (k R : Nat) (r : List Nat), N = k ∧ k ≤ l.length ∧ r.length = l.length ∧ Dg r ∧ R < d ∧ val (l.drop k) = d * val (r.drop k) + R ∧
    st = ⟨[(8, .i .i64 ((k : Int) - 1)), (7, .i .u64 R), (6, .own 0 0 l.length 1), (0, dg l), (1, .i .u32 d)], [(0, ⟨50, r.map u⟩)], 1⟩) l.length ⟨l.length, 0, List.replicate l.length 0, rfl, Nat.le_refl _, by simp, Dg_replicate _, h0, by simp [val], rfl⟩ ?_
  rintro N st ⟨k, R, r, rfl, hk, hr, hdr, hR, hval, rfl⟩
  refine AX.seq ?_
  cases N with
  | zero =>
    apply AX.sreg [0, 1, 6, 7, 16] (by simp only [pq]; rfl)
    · repeat (first
     | (apply RunO.op rfl; · rfl
        · rfl
        iterate 2 (· (simp (disch := omega) only [go_sem, i64_of, u32_of, u64_of, Nat.reduceLT, Nat.reduceLeDiff, Nat.reduceEqDiff, Nat.reduceAdd, Nat.reduceSub, Nat.reduceMul, Nat.reducePow, Nat.reduceBEq, Int.reduceLE, Int.reduceLT, Int.reduceToNat, Int.reduceEq, Int.reduceNeg, reduceIte, reduceCtorEq]; rfl))
        · (simp only [pb, Nat.reduceLT, Nat.reduceAdd, reduceIte]; rfl))
     | (apply RunO.skip; · rfl
        · (simp only [pb, Nat.reduceLT, Nat.reduceAdd, reduceIte]; rfl)))
      exact RunO.nil
    · repeat (first | exact Keep.nil | (apply Keep.take; · rfl) | (apply Keep.drop; · rfl))
    refine AX.cond_false (by simp only [valOf, lkp, if_true, if_false, Nat.reduceEqDiff, reduceIte]) ?_
    refine AX.exit ?_
    try simp only [thenS_normal, thenS_ret, thenS_exit, blockS_normal, blockS_ret, blockS_exit, backS_ret, backS_exit, if_true]
    rw [List.drop_zero, List.drop_zero] at hval
    obtain ⟨e1, e2⟩ := divmod_unique hval hR
    have c3 := ntrim_ok r hdr (by omega)
    rw [e1] at c3
    have ht : List.take l.length r = r := List.take_of_length_le (by omega)
    apply AX.sreg [4, 5] (by simp only [pq]; rfl)
    · repeat (first
     | (apply RunO.op rfl; · rfl
        · rfl
        iterate 2 (· (simp (disch := omega) only [go_sem, i64_of, u32_of, u64_of, Nat.reduceLT, Nat.reduceLeDiff, Nat.reduceEqDiff, Nat.reduceAdd, Nat.reduceSub, Nat.reduceMul, Nat.reducePow, Nat.reduceBEq, Int.reduceLE, Int.reduceLT, Int.reduceToNat, Int.reduceEq, Int.reduceNeg, reduceIte, reduceCtorEq, ht]; rfl))
        · (simp only [pb, Nat.reduceLT, Nat.reduceAdd, reduceIte]; rfl))
     | (apply RunO.call rfl; · rfl
        · rfl
        · (simp (disch := omega) only [go_sem, i64_of, u32_of, u64_of, Nat.reduceLT, Nat.reduceLeDiff, Nat.reduceEqDiff, Nat.reduceAdd, Nat.reduceSub, Nat.reduceMul, Nat.reducePow, Nat.reduceBEq, Int.reduceLE, Int.reduceLT, Int.reduceToNat, Int.reduceEq, Int.reduceNeg, reduceIte, reduceCtorEq, ht]; rfl)
        · rfl
        · (first | exact c3)
        · (simp (disch := omega) only [go_sem, i64_of, u32_of, u64_of, Nat.reduceLT, Nat.reduceLeDiff, Nat.reduceEqDiff, Nat.reduceAdd, Nat.reduceSub, Nat.reduceMul, Nat.reducePow, Nat.reduceBEq, Int.reduceLE, Int.reduceLT, Int.reduceToNat, Int.reduceEq, Int.reduceNeg, reduceIte, reduceCtorEq, ht]; rfl)
        · (simp only [pb, Nat.reduceLT, Nat.reduceAdd, reduceIte]; rfl))
     | (apply RunO.skip; · rfl
        · (simp only [pb, Nat.reduceLT, Nat.reduceAdd, reduceIte]; rfl)))
      exact RunO.nil
    · repeat (first | exact Keep.nil | (apply Keep.take; · rfl) | (apply Keep.drop; · rfl))
    refine AX.ret (And.intro (Or.inl rfl) ?_)
    rw [← e2]
    exact Done.of (vs := [nv (val l / d), .i .u32 R]) rfl (by simp only [packV, frz, frzL]; rfl) rfl (by simp only [V.lt, V.ltL, ltL_u]; rfl) (by simp only [V.ren, V.renL, renL_u])
  | succ k =>
    have e1 : ((k + 1 : Nat) : Int) - 1 = (k : Int) := by omega
    rw [e1]
    apply AX.sreg [0, 1, 6, 7, 8, 16] (by simp only [pq]; rfl)
    · repeat (first
     | (apply RunO.op rfl; · rfl
        · rfl
        iterate 2 (· (simp (disch := omega) only [go_sem, i64_of, u32_of, u64_of, Nat.reduceLT, Nat.reduceLeDiff, Nat.reduceEqDiff, Nat.reduceAdd, Nat.reduceSub, Nat.reduceMul, Nat.reducePow, Nat.reduceBEq, Int.reduceLE, Int.reduceLT, Int.reduceToNat, Int.reduceEq, Int.reduceNeg, reduceIte, reduceCtorEq]; rfl))
        · (simp only [pb, Nat.reduceLT, Nat.reduceAdd, reduceIte]; rfl))
     | (apply RunO.skip; · rfl
        · (simp only [pb, Nat.reduceLT, Nat.reduceAdd, reduceIte]; rfl)))
      exact RunO.nil
    · repeat (first | exact Keep.nil | (apply Keep.take; · rfl) | (apply Keep.drop; · rfl))
    refine AX.cond_true (by simp only [valOf, lkp, if_true, if_false, Nat.reduceEqDiff, reduceIte]) ?_
    refine AX.skip ?_
    try simp only [thenS_normal, thenS_ret, thenS_exit, blockS_normal, blockS_ret, blockS_exit, backS_ret, backS_exit, if_true]
    refine AX.seq ?_
    refine AX.block ?_
    have hx := Dg_getD hd k
    have hst := val_drop_step l k (by omega)
    generalize hxx : l.getD k 0 = x at *
    apply AX.sreg [0, 1, 6, 7, 8] (by simp only [pq]; rfl)
    · repeat (first
     | (apply RunO.op rfl; · rfl
        · rfl
        iterate 2 (· (simp (disch := omega) only [go_sem, i64_of, u32_of, u64_of, Nat.reduceLT, Nat.reduceLeDiff, Nat.reduceEqDiff, Nat.reduceAdd, Nat.reduceSub, Nat.reduceMul, Nat.reducePow, Nat.reduceBEq, Int.reduceLE, Int.reduceLT, Int.reduceToNat, Int.reduceEq, Int.reduceNeg, reduceIte, reduceCtorEq, shl32, ori' hx (show R < 4294967296 by omega), hxx]; rfl))
        · (simp only [pb, Nat.reduceLT, Nat.reduceAdd, reduceIte]; rfl))
     | (apply RunO.skip; · rfl
        · (simp only [pb, Nat.reduceLT, Nat.reduceAdd, reduceIte]; rfl)))
      exact RunO.nil
    · repeat (first | exact Keep.nil | (apply Keep.take; · rfl) | (apply Keep.drop; · rfl))
    have hq := short_lt hR hx
    generalize hs : R * 4294967296 + x = s at *
    have hm := Nat.mod_lt s h0
    have e2 : Int.tdiv (s : Int) (d : Int) = ((s / d : Nat) : Int) := rfl
    have e3 : Int.tmod (s : Int) (d : Int) = ((s % d : Nat) : Int) := rfl
    generalize hqq : s / d = q at *
    generalize hmm : s % d = R' at *
    apply AX.sreg [0, 1, 6, 7, 8] (by simp only [pq]; rfl)
    · repeat (first
     | (apply RunO.op rfl; · rfl
        · rfl
        iterate 2 (· (simp (disch := omega) only [go_sem, i64_of, u32_of, u64_of, Nat.reduceLT, Nat.reduceLeDiff, Nat.reduceEqDiff, Nat.reduceAdd, Nat.reduceSub, Nat.reduceMul, Nat.reducePow, Nat.reduceBEq, Int.reduceLE, Int.reduceLT, Int.reduceToNat, Int.reduceEq, Int.reduceNeg, reduceIte, reduceCtorEq, e2]; rfl))
        · (simp only [pb, Nat.reduceLT, Nat.reduceAdd, reduceIte]; rfl))
     | (apply RunO.skip; · rfl
        · (simp only [pb, Nat.reduceLT, Nat.reduceAdd, reduceIte]; rfl)))
      exact RunO.nil
    · repeat (first | exact Keep.nil | (apply Keep.take; · rfl) | (apply Keep.drop; · rfl))
    apply AX.reg [0, 1, 6, 7, 8] (by simp only [pq]; rfl)
    · repeat (first
     | (apply RunO.op rfl; · rfl
        · rfl
        iterate 2 (· (simp (disch := omega) only [go_sem, i64_of, u32_of, u64_of, Nat.reduceLT, Nat.reduceLeDiff, Nat.reduceEqDiff, Nat.reduceAdd, Nat.reduceSub, Nat.reduceMul, Nat.reducePow, Nat.reduceBEq, Int.reduceLE, Int.reduceLT, Int.reduceToNat, Int.reduceEq, Int.reduceNeg, reduceIte, reduceCtorEq, e3]; rfl))
        · (simp only [pb, Nat.reduceLT, Nat.reduceAdd, reduceIte]; rfl))
     | (apply RunO.skip; · rfl
        · (simp only [pb, Nat.reduceLT, Nat.reduceAdd, reduceIte]; rfl)))
      exact RunO.nil
    · repeat (first | exact Keep.nil | (apply Keep.take; · rfl) | (apply Keep.drop; · rfl))
    try simp only [thenS_normal, thenS_ret, thenS_exit, blockS_normal, blockS_ret, blockS_exit, backS_ret, backS_exit, if_true]
    apply AX.reg [0, 1, 6, 7, 8] (by simp only [pq]; rfl)
    · repeat (first
     | (apply RunO.op rfl; · rfl
        · rfl
        iterate 2 (· (simp (disch := omega) only [go_sem, i64_of, u32_of, u64_of, Nat.reduceLT, Nat.reduceLeDiff, Nat.reduceEqDiff, Nat.reduceAdd, Nat.reduceSub, Nat.reduceMul, Nat.reducePow, Nat.reduceBEq, Int.reduceLE, Int.reduceLT, Int.reduceToNat, Int.reduceEq, Int.reduceNeg, reduceIte, reduceCtorEq]; rfl))
        · (simp only [pb, Nat.reduceLT, Nat.reduceAdd, reduceIte]; rfl))
     | (apply RunO.skip; · rfl
        · (simp only [pb, Nat.reduceLT, Nat.reduceAdd, reduceIte]; rfl)))
      exact RunO.nil
    · repeat (first | exact Keep.nil | (apply Keep.take; · rfl) | (apply Keep.drop; · rfl))
    try simp only [thenS_normal, thenS_ret, thenS_exit, blockS_normal, blockS_ret, blockS_exit, backS_ret, backS_exit, if_true]
    refine ⟨k, _, id, by omega,
      ⟨by simp only [LeFr, LeHp, lkp, V.ren, V.renL, Row.ren, V.lt, V.ltL, renL_u, ltL_u, List.length_append, List.length_cons, List.length_nil, List.length_set, id_eq, Option.some.injEq, V.i.injEq, V.b.injEq, V.own.injEq, Row.mk.injEq, decide_true, decide_eq_true_eq, true_and, and_true, Bool.and_true, Bool.true_and, if_true, if_false, and_self, Nat.reduceLT, Nat.reduceLeDiff, Nat.reduceEqDiff, Nat.reduceAdd, Nat.reduceSub, Nat.reduceMul, Nat.reducePow, Nat.reduceBEq, Int.reduceLE, Int.reduceLT, Int.reduceToNat, Int.reduceEq, Int.reduceNeg, reduceIte, reduceCtorEq] <;> (first | done | trivial | (and_intros <;> first | trivial | omega | assumption)), by simp only [LeFr, LeHp, lkp, V.ren, V.renL, Row.ren, V.lt, V.ltL, renL_u, ltL_u, List.length_append, List.length_cons, List.length_nil, List.length_set, id_eq, Option.some.injEq, V.i.injEq, V.b.injEq, V.own.injEq, Row.mk.injEq, decide_true, decide_eq_true_eq, true_and, and_true, Bool.and_true, Bool.true_and, if_true, if_false, and_self, Nat.reduceLT, Nat.reduceLeDiff, Nat.reduceEqDiff, Nat.reduceAdd, Nat.reduceSub, Nat.reduceMul, Nat.reducePow, Nat.reduceBEq, Int.reduceLE, Int.reduceLT, Int.reduceToNat, Int.reduceEq, Int.reduceNeg, reduceIte, reduceCtorEq] <;> (first | done | trivial | (and_intros <;> first | trivial | omega | assumption)), by simp [Apart], by first | exact Nat.zero_le _ | simp, by intro n hn; first | rfl | exact absurd hn (Nat.not_lt_zero _)⟩
      , ⟨k, R', r.set k q, rfl, by omega, by simp [hr], Dg_set hdr hq, hm, ?_, rfl⟩⟩
    rw [hst, drop_set_self r k _ (by omega), val]
    exact short_step hval hs hqq.symm hmm.symm

theorem rshort_ok (l : List Nat) (d : Nat) (hd : Dg l) (hl : l.length < 2 ^ 30) (h0 : 0 < d) (hdB : d < 4294967296) : PCall Try.prog 54 [dg l, .i .u64 d] (.tup [nv (val l / d), .i .u64 (val l % d : Nat)]) [] := by
  refine PCall.of_ax Try.call54 Try.func54 rfl (by simp [Try.ntmps54]) fun O w => ?_
  simp only [Try.ntmps54, Try.results54, argFr]
  apply AX.sreg [0, 1] (by simp only [pq]; rfl)
  · repeat (first
   | (apply RunO.op rfl; · rfl
      · rfl
      iterate 2 (· (simp (disch := omega) only [go_sem, i64_of, u32_of, u64_of, Nat.reduceLT, Nat.reduceLeDiff, Nat.reduceEqDiff, Nat.reduceAdd, Nat.reduceSub, Nat.reduceMul, Nat.reducePow, Nat.reduceBEq, Int.reduceLE, Int.reduceLT, Int.reduceToNat, Int.reduceEq, Int.reduceNeg, reduceIte, reduceCtorEq]; rfl))
      · (simp only [pb, Nat.reduceLT, Nat.reduceAdd, reduceIte]; rfl))
   | (apply RunO.skip; · rfl
      · (simp only [pb, Nat.reduceLT, Nat.reduceAdd, reduceIte]; rfl)))
    exact RunO.nil
  · repeat (first | exact Keep.nil | (apply Keep.take; · rfl) | (apply Keep.drop; · rfl))
  apply AX.sreg [0, 1, 6] (by simp only [pq]; rfl)
  · repeat (first
   | (apply RunO.op rfl; · rfl
      · rfl
      iterate 2 (· (simp (disch := omega) only [go_sem, i64_of, u32_of, u64_of, Nat.reduceLT, Nat.reduceLeDiff, Nat.reduceEqDiff, Nat.reduceAdd, Nat.reduceSub, Nat.reduceMul, Nat.reducePow, Nat.reduceBEq, Int.reduceLE, Int.reduceLT, Int.reduceToNat, Int.reduceEq, Int.reduceNeg, reduceIte, reduceCtorEq]; rfl))
      · (simp only [pb, Nat.reduceLT, Nat.reduceAdd, reduceIte]; rfl))
   | (apply RunO.skip; · rfl
      · (simp only [pb, Nat.reduceLT, Nat.reduceAdd, reduceIte]; rfl)))
    exact RunO.nil
  · repeat (first | exact Keep.nil | (apply Keep.take; · rfl) | (apply Keep.drop; · rfl))
  apply AX.sreg [0, 1, 6, 7] (by simp only [pq]; rfl)
  · repeat (first
   | (apply RunO.op rfl; · rfl
      · rfl
      iterate 2 (· (simp (disch := omega) only [go_sem, i64_of, u32_of, u64_of, Nat.reduceLT, Nat.reduceLeDiff, Nat.reduceEqDiff, Nat.reduceAdd, Nat.reduceSub, Nat.reduceMul, Nat.reducePow, Nat.reduceBEq, Int.reduceLE, Int.reduceLT, Int.reduceToNat, Int.reduceEq, Int.reduceNeg, reduceIte, reduceCtorEq]; rfl))
      · (simp only [pb, Nat.reduceLT, Nat.reduceAdd, reduceIte]; rfl))
   | (apply RunO.skip; · rfl
      · (simp only [pb, Nat.reduceLT, Nat.reduceAdd, reduceIte]; rfl)))
    exact RunO.nil
  · repeat (first | exact Keep.nil | (apply Keep.take; · rfl) | (apply Keep.drop; · rfl))
  refine AX.seq ?_
  apply AX.sreg [0, 1, 6, 7, 8] (by simp only [pq]; rfl)
  · repeat (first
   | (apply RunO.op rfl; · rfl
      · rfl
      iterate 2 (· (simp (disch := omega) only [go_sem, i64_of, u32_of, u64_of, Nat.reduceLT, Nat.reduceLeDiff, Nat.reduceEqDiff, Nat.reduceAdd, Nat.reduceSub, Nat.reduceMul, Nat.reducePow, Nat.reduceBEq, Int.reduceLE, Int.reduceLT, Int.reduceToNat, Int.reduceEq, Int.reduceNeg, reduceIte, reduceCtorEq]; rfl))
      · (simp only [pb, Nat.reduceLT, Nat.reduceAdd, reduceIte]; rfl))
   | (apply RunO.skip; · rfl
      · (simp only [pb, Nat.reduceLT, Nat.reduceAdd, reduceIte]; rfl)))
    exact RunO.nil
  · repeat (first | exact Keep.nil | (apply Keep.take; · rfl) | (apply Keep.drop; · rfl))
  refine AX.block ?_
  refine AX.loop (fun N st => ∃ (k R : Nat) (r : List Nat), N = k ∧ k ≤ l.length ∧ r.length = l.length ∧ Dg r ∧ R < d ∧ val (l.drop k) = d * val (r.drop k) + R ∧
    st = ⟨[(8, .i .i64 ((k : Int) - 1)), (7, .i .u64 R), (6, .own 0 0 l.length 1), (0, dg l), (1, .i .u64 d)], [(0, ⟨50, r.map u⟩)], 1⟩) l.length ⟨l.length, 0, List.replicate l.length 0, rfl, Nat.le_refl _, by simp, Dg_replicate _, h0, by simp [val], rfl⟩ ?_
  rintro N st ⟨k, R, r, rfl, hk, hr, hdr, hR, hval, rfl⟩
  refine AX.seq ?_
  cases N with
  | zero =>
    apply AX.sreg [0, 1, 6, 7, 17] (by simp only [pq]; rfl)
    · repeat (first
     | (apply RunO.op rfl; · rfl
        · rfl
        iterate 2 (· (simp (disch := omega) only [go_sem, i64_of, u32_of, u64_of, Nat.reduceLT, Nat.reduceLeDiff, Nat.reduceEqDiff, Nat.reduceAdd, Nat.reduceSub, Nat.reduceMul, Nat.reducePow, Nat.reduceBEq, Int.reduceLE, Int.reduceLT, Int.reduceToNat, Int.reduceEq, Int.reduceNeg, reduceIte, reduceCtorEq]; rfl))
        · (simp only [pb, Nat.reduceLT, Nat.reduceAdd, reduceIte]; rfl))
     | (apply RunO.skip; · rfl
        · (simp only [pb, Nat.reduceLT, Nat.reduceAdd, reduceIte]; rfl)))
      exact RunO.nil
    · repeat (first | exact Keep.nil | (apply Keep.take; · rfl) | (apply Keep.drop; · rfl))
    refine AX.cond_false (by simp only [valOf, lkp, if_true, if_false, Nat.reduceEqDiff, reduceIte]) ?_
    refine AX.exit ?_
    try simp only [thenS_normal, thenS_ret, thenS_exit, blockS_normal, blockS_ret, blockS_exit, backS_ret, backS_exit, if_true]
    rw [List.drop_zero, List.drop_zero] at hval
    obtain ⟨e1, e2⟩ := divmod_unique hval hR
    have c3 := rntrim_ok r hdr (by omega)
    rw [e1] at c3
    have ht : List.take l.length r = r := List.take_of_length_le (by omega)
    apply AX.sreg [4, 5] (by simp only [pq]; rfl)
    · repeat (first
     | (apply RunO.op rfl; · rfl
        · rfl
        iterate 2 (· (simp (disch := omega) only [go_sem, i64_of, u32_of, u64_of, Nat.reduceLT, Nat.reduceLeDiff, Nat.reduceEqDiff, Nat.reduceAdd, Nat.reduceSub, Nat.reduceMul, Nat.reducePow, Nat.reduceBEq, Int.reduceLE, Int.reduceLT, Int.reduceToNat, Int.reduceEq, Int.reduceNeg, reduceIte, reduceCtorEq, ht]; rfl))
        · (simp only [pb, Nat.reduceLT, Nat.reduceAdd, reduceIte]; rfl))
     | (apply RunO.call rfl; · rfl
        · rfl
        · (simp (disch := omega) only [go_sem, i64_of, u32_of, u64_of, Nat.reduceLT, Nat.reduceLeDiff, Nat.reduceEqDiff, Nat.reduceAdd, Nat.reduceSub, Nat.reduceMul, Nat.reducePow, Nat.reduceBEq, Int.reduceLE, Int.reduceLT, Int.reduceToNat, Int.reduceEq, Int.reduceNeg, reduceIte, reduceCtorEq, ht]; rfl)
        · rfl
        · (first | exact c3)
        · (simp (disch := omega) only [go_sem, i64_of, u32_of, u64_of, Nat.reduceLT, Nat.reduceLeDiff, Nat.reduceEqDiff, Nat.reduceAdd, Nat.reduceSub, Nat.reduceMul, Nat.reducePow, Nat.reduceBEq, Int.reduceLE, Int.reduceLT, Int.reduceToNat, Int.reduceEq, Int.reduceNeg, reduceIte, reduceCtorEq, ht]; rfl)
        · (simp only [pb, Nat.reduceLT, Nat.reduceAdd, reduceIte]; rfl))
     | (apply RunO.skip; · rfl
        · (simp only [pb, Nat.reduceLT, Nat.reduceAdd, reduceIte]; rfl)))
      exact RunO.nil
    · repeat (first | exact Keep.nil | (apply Keep.take; · rfl) | (apply Keep.drop; · rfl))
    refine AX.ret (And.intro (Or.inl rfl) ?_)
    rw [← e2]
    exact Done.of (vs := [nv (val l / d), .i .u64 R]) rfl (by simp only [packV, frz, frzL]; rfl) rfl (by simp only [V.lt, V.ltL, ltL_u]; rfl) (by simp only [V.ren, V.renL, renL_u])
  | succ k =>
    have e1 : ((k + 1 : Nat) : Int) - 1 = (k : Int) := by omega
    rw [e1]
    apply AX.sreg [0, 1, 6, 7, 8, 17] (by simp only [pq]; rfl)
    · repeat (first
     | (apply RunO.op rfl; · rfl
        · rfl
        iterate 2 (· (simp (disch := omega) only [go_sem, i64_of, u32_of, u64_of, Nat.reduceLT, Nat.reduceLeDiff, Nat.reduceEqDiff, Nat.reduceAdd, Nat.reduceSub, Nat.reduceMul, Nat.reducePow, Nat.reduceBEq, Int.reduceLE, Int.reduceLT, Int.reduceToNat, Int.reduceEq, Int.reduceNeg, reduceIte, reduceCtorEq]; rfl))
        · (simp only [pb, Nat.reduceLT, Nat.reduceAdd, reduceIte]; rfl))
     | (apply RunO.skip; · rfl
        · (simp only [pb, Nat.reduceLT, Nat.reduceAdd, reduceIte]; rfl)))
      exact RunO.nil
    · repeat (first | exact Keep.nil | (apply Keep.take; · rfl) | (apply Keep.drop; · rfl))
    refine AX.cond_true (by simp only [valOf, lkp, if_true, if_false, Nat.reduceEqDiff, reduceIte]) ?_
    refine AX.skip ?_
    try simp only [thenS_normal, thenS_ret, thenS_exit, blockS_normal, blockS_ret, blockS_exit, backS_ret, backS_exit, if_true]
    refine AX.seq ?_
    refine AX.block ?_
    have hx := Dg_getD hd k
    have hst := val_drop_step l k (by omega)
    generalize hxx : l.getD k 0 = x at *
    apply AX.sreg [0, 1, 6, 8, 9] (by simp only [pq]; rfl)
    · repeat (first
     | (apply RunO.op rfl; · rfl
        · rfl
        iterate 2 (· (simp (disch := omega) only [go_sem, i64_of, u32_of, u64_of, Nat.reduceLT, Nat.reduceLeDiff, Nat.reduceEqDiff, Nat.reduceAdd, Nat.reduceSub, Nat.reduceMul, Nat.reducePow, Nat.reduceBEq, Int.reduceLE, Int.reduceLT, Int.reduceToNat, Int.reduceEq, Int.reduceNeg, reduceIte, reduceCtorEq, lit_mul, ← Int.natCast_add, hxx]; rfl))
        · (simp only [pb, Nat.reduceLT, Nat.reduceAdd, reduceIte]; rfl))
     | (apply RunO.skip; · rfl
        · (simp only [pb, Nat.reduceLT, Nat.reduceAdd, reduceIte]; rfl)))
      exact RunO.nil
    · repeat (first | exact Keep.nil | (apply Keep.take; · rfl) | (apply Keep.drop; · rfl))
    have hq := short_lt hR hx
    generalize hs : R * 4294967296 + x = s at *
    have hm := Nat.mod_lt s h0
    have e2 : Int.tdiv (s : Int) (d : Int) = ((s / d : Nat) : Int) := rfl
    have e3 : Int.tmod (s : Int) (d : Int) = ((s % d : Nat) : Int) := rfl
    generalize hqq : s / d = q at *
    generalize hmm : s % d = R' at *
    apply AX.sreg [0, 1, 6, 8, 9] (by simp only [pq]; rfl)
    · repeat (first
     | (apply RunO.op rfl; · rfl
        · rfl
        iterate 2 (· (simp (disch := omega) only [go_sem, i64_of, u32_of, u64_of, Nat.reduceLT, Nat.reduceLeDiff, Nat.reduceEqDiff, Nat.reduceAdd, Nat.reduceSub, Nat.reduceMul, Nat.reducePow, Nat.reduceBEq, Int.reduceLE, Int.reduceLT, Int.reduceToNat, Int.reduceEq, Int.reduceNeg, reduceIte, reduceCtorEq, e2]; rfl))
        · (simp only [pb, Nat.reduceLT, Nat.reduceAdd, reduceIte]; rfl))
     | (apply RunO.skip; · rfl
        · (simp only [pb, Nat.reduceLT, Nat.reduceAdd, reduceIte]; rfl)))
      exact RunO.nil
    · repeat (first | exact Keep.nil | (apply Keep.take; · rfl) | (apply Keep.drop; · rfl))
    apply AX.reg [0, 1, 6, 7, 8] (by simp only [pq]; rfl)
    · repeat (first
     | (apply RunO.op rfl; · rfl
        · rfl
        iterate 2 (· (simp (disch := omega) only [go_sem, i64_of, u32_of, u64_of, Nat.reduceLT, Nat.reduceLeDiff, Nat.reduceEqDiff, Nat.reduceAdd, Nat.reduceSub, Nat.reduceMul, Nat.reducePow, Nat.reduceBEq, Int.reduceLE, Int.reduceLT, Int.reduceToNat, Int.reduceEq, Int.reduceNeg, reduceIte, reduceCtorEq, e3]; rfl))
        · (simp only [pb, Nat.reduceLT, Nat.reduceAdd, reduceIte]; rfl))
     | (apply RunO.skip; · rfl
        · (simp only [pb, Nat.reduceLT, Nat.reduceAdd, reduceIte]; rfl)))
      exact RunO.nil
    · repeat (first | exact Keep.nil | (apply Keep.take; · rfl) | (apply Keep.drop; · rfl))
    try simp only [thenS_normal, thenS_ret, thenS_exit, blockS_normal, blockS_ret, blockS_exit, backS_ret, backS_exit, if_true]
    apply AX.reg [0, 1, 6, 7, 8] (by simp only [pq]; rfl)
    · repeat (first
     | (apply RunO.op rfl; · rfl
        · rfl
        iterate 2 (· (simp (disch := omega) only [go_sem, i64_of, u32_of, u64_of, Nat.reduceLT, Nat.reduceLeDiff, Nat.reduceEqDiff, Nat.reduceAdd, Nat.reduceSub, Nat.reduceMul, Nat.reducePow, Nat.reduceBEq, Int.reduceLE, Int.reduceLT, Int.reduceToNat, Int.reduceEq, Int.reduceNeg, reduceIte, reduceCtorEq]; rfl))
        · (simp only [pb, Nat.reduceLT, Nat.reduceAdd, reduceIte]; rfl))
     | (apply RunO.skip; · rfl
        · (simp only [pb, Nat.reduceLT, Nat.reduceAdd, reduceIte]; rfl)))
      exact RunO.nil
    · repeat (first | exact Keep.nil | (apply Keep.take; · rfl) | (apply Keep.drop; · rfl))
    try simp only [thenS_normal, thenS_ret, thenS_exit, blockS_normal, blockS_ret, blockS_exit, backS_ret, backS_exit, if_true]
    refine ⟨k, _, id, by omega,
      ⟨by simp only [LeFr, LeHp, lkp, V.ren, V.renL, Row.ren, V.lt, V.ltL, renL_u, ltL_u, List.length_append, List.length_cons, List.length_nil, List.length_set, id_eq, Option.some.injEq, V.i.injEq, V.b.injEq, V.own.injEq, Row.mk.injEq, decide_true, decide_eq_true_eq, true_and, and_true, Bool.and_true, Bool.true_and, if_true, if_false, and_self, Nat.reduceLT, Nat.reduceLeDiff, Nat.reduceEqDiff, Nat.reduceAdd, Nat.reduceSub, Nat.reduceMul, Nat.reducePow, Nat.reduceBEq, Int.reduceLE, Int.reduceLT, Int.reduceToNat, Int.reduceEq, Int.reduceNeg, reduceIte, reduceCtorEq] <;> (first | done | trivial | (and_intros <;> first | trivial | omega | assumption)), by simp only [LeFr, LeHp, lkp, V.ren, V.renL, Row.ren, V.lt, V.ltL, renL_u, ltL_u, List.length_append, List.length_cons, List.length_nil, List.length_set, id_eq, Option.some.injEq, V.i.injEq, V.b.injEq, V.own.injEq, Row.mk.injEq, decide_true, decide_eq_true_eq, true_and, and_true, Bool.and_true, Bool.true_and, if_true, if_false, and_self, Nat.reduceLT, Nat.reduceLeDiff, Nat.reduceEqDiff, Nat.reduceAdd, Nat.reduceSub, Nat.reduceMul, Nat.reducePow, Nat.reduceBEq, Int.reduceLE, Int.reduceLT, Int.reduceToNat, Int.reduceEq, Int.reduceNeg, reduceIte, reduceCtorEq] <;> (first | done | trivial | (and_intros <;> first | trivial | omega | assumption)), by simp [Apart], by first | exact Nat.zero_le _ | simp, by intro n hn; first | rfl | exact absurd hn (Nat.not_lt_zero _)⟩
      , ⟨k, R', r.set k q, rfl, by omega, by simp [hr], Dg_set hdr hq, hm, ?_, rfl⟩⟩
    rw [hst, drop_set_self r k _ (by omega), val]
    exact short_step hval hs hqq.symm hmm.symm

theorem times_ok (b : List Nat) (x s : Nat) (hd : Dg b) (hl : b.length < 2 ^ 28) (hx : x < 4294967296) (hs : s < 2 ^ 28) : PCall Try.prog 56 [dg b, .i .u64 x, .i .i64 s] (nv (4294967296 ^ s * (x * val b))) [] := by
  refine PCall.of_ax Try.call56 Try.func56 rfl (by simp [Try.ntmps56]) fun O w => ?_
  simp only [Try.ntmps56, Try.results56, argFr]
  apply AX.sreg [0, 1, 2] (by simp only [pq]; rfl)
  · repeat (first
   | (apply RunO.op rfl; · rfl
      · rfl
      iterate 2 (· (simp (disch := omega) only [go_sem, i64_of, u32_of, u64_of, Nat.reduceLT, Nat.reduceLeDiff, Nat.reduceEqDiff, Nat.reduceAdd, Nat.reduceSub, Nat.reduceMul, Nat.reducePow, Nat.reduceBEq, Int.reduceLE, Int.reduceLT, Int.reduceToNat, Int.reduceEq, Int.reduceNeg, reduceIte, reduceCtorEq]; rfl))
      · (simp only [pb, Nat.reduceLT, Nat.reduceAdd, reduceIte]; rfl))
   | (apply RunO.skip; · rfl
      · (simp only [pb, Nat.reduceLT, Nat.reduceAdd, reduceIte]; rfl)))
    exact RunO.nil
  · repeat (first | exact Keep.nil | (apply Keep.take; · rfl) | (apply Keep.drop; · rfl))
  apply AX.sreg [0, 1, 7] (by simp only [pq]; rfl)
  · repeat (first
   | (apply RunO.op rfl; · rfl
      · rfl
      iterate 2 (· (simp (disch := omega) only [go_sem, i64_of, u32_of, u64_of, Nat.reduceLT, Nat.reduceLeDiff, Nat.reduceEqDiff, Nat.reduceAdd, Nat.reduceSub, Nat.reduceMul, Nat.reducePow, Nat.reduceBEq, Int.reduceLE, Int.reduceLT, Int.reduceToNat, Int.reduceEq, Int.reduceNeg, reduceIte, reduceCtorEq]; rfl))
      · (simp only [pb, Nat.reduceLT, Nat.reduceAdd, reduceIte]; rfl))
   | (apply RunO.skip; · rfl
      · (simp only [pb, Nat.reduceLT, Nat.reduceAdd, reduceIte]; rfl)))
    exact RunO.nil
  · repeat (first | exact Keep.nil | (apply Keep.take; · rfl) | (apply Keep.drop; · rfl))
  apply AX.sreg [0, 1, 7, 8] (by simp only [pq]; rfl)
  · repeat (first
   | (apply RunO.op rfl; · rfl
      · rfl
      iterate 2 (· (simp (disch := omega) only [go_sem, i64_of, u32_of, u64_of, Nat.reduceLT, Nat.reduceLeDiff, Nat.reduceEqDiff, Nat.reduceAdd, Nat.reduceSub, Nat.reduceMul, Nat.reducePow, Nat.reduceBEq, Int.reduceLE, Int.reduceLT, Int.reduceToNat, Int.reduceEq, Int.reduceNeg, reduceIte, reduceCtorEq]; rfl))
      · (simp only [pb, Nat.reduceLT, Nat.reduceAdd, reduceIte]; rfl))
   | (apply RunO.skip; · rfl
      · (simp only [pb, Nat.reduceLT, Nat.reduceAdd, reduceIte]; rfl)))
    exact RunO.nil
  · repeat (first | exact Keep.nil | (apply Keep.take; · rfl) | (apply Keep.drop; · rfl))
  refine AX.seq ?_
  apply AX.sreg [0, 1, 7, 8, 9] (by simp only [pq]; rfl)
  · repeat (first
   | (apply RunO.op rfl; · rfl
      · rfl
      iterate 2 (· (simp (disch := omega) only [go_sem, i64_of, u32_of, u64_of, Nat.reduceLT, Nat.reduceLeDiff, Nat.reduceEqDiff, Nat.reduceAdd, Nat.reduceSub, Nat.reduceMul, Nat.reducePow, Nat.reduceBEq, Int.reduceLE, Int.reduceLT, Int.reduceToNat, Int.reduceEq, Int.reduceNeg, reduceIte, reduceCtorEq]; rfl))
      · (simp only [pb, Nat.reduceLT, Nat.reduceAdd, reduceIte]; rfl))
   | (apply RunO.skip; · rfl
      · (simp only [pb, Nat.reduceLT, Nat.reduceAdd, reduceIte]; rfl)))
    exact RunO.nil
  · repeat (first | exact Keep.nil | (apply Keep.take; · rfl) | (apply Keep.drop; · rfl))
  refine AX.block ?_
  refine AX.loop (fun N st => ∃ (i c : Nat) (o : List Nat), N = b.length - i ∧ i ≤ b.length ∧ o.length = s + i ∧ Dg o ∧ c < 4294967296 ∧ val o + 4294967296 ^ s * 4294967296 ^ i * c = 4294967296 ^ s * (x * val (b.take i)) ∧
    st = ⟨[(9, .i .i64 i), (8, .i .u64 c), (7, .own 0 0 (s + i) 1), (0, dg b), (1, .i .u64 x)], [(0, ⟨50, o.map u⟩)], 1⟩) b.length ⟨0, 0, List.replicate s 0, rfl, Nat.zero_le _, by simp, Dg_replicate _, by omega, by simp [val, val_replicate], rfl⟩ ?_
  rintro N st ⟨i, c, o, rfl, hi, ho, hdo, hc, hval, rfl⟩
  refine AX.seq ?_
  by_cases h1 : i < b.length
  · apply AX.sreg [0, 1, 7, 8, 9, 16] (by simp only [pq]; rfl)
    · repeat (first
     | (apply RunO.op rfl; · rfl
        · rfl
        iterate 2 (· (simp (disch := omega) only [go_sem, i64_of, u32_of, u64_of, Nat.reduceLT, Nat.reduceLeDiff, Nat.reduceEqDiff, Nat.reduceAdd, Nat.reduceSub, Nat.reduceMul, Nat.reducePow, Nat.reduceBEq, Int.reduceLE, Int.reduceLT, Int.reduceToNat, Int.reduceEq, Int.reduceNeg, reduceIte, reduceCtorEq]; rfl))
        · (simp only [pb, Nat.reduceLT, Nat.reduceAdd, reduceIte]; rfl))
     | (apply RunO.skip; · rfl
        · (simp only [pb, Nat.reduceLT, Nat.reduceAdd, reduceIte]; rfl)))
      exact RunO.nil
    · repeat (first | exact Keep.nil | (apply Keep.take; · rfl) | (apply Keep.drop; · rfl))
    refine AX.cond_true (by simp only [valOf, lkp, if_true, if_false, Nat.reduceEqDiff, reduceIte]) ?_
    apply AX.keep (l := [0, 1, 7, 8, 9])
    · repeat (first | exact Keep.nil | (apply Keep.take; · rfl) | (apply Keep.drop; · rfl))
    refine AX.skip ?_
    try simp only [thenS_normal, thenS_ret, thenS_exit, blockS_normal, blockS_ret, blockS_exit, backS_ret, backS_exit, if_true]
    refine AX.seq ?_
    refine AX.block ?_
    have hy := Dg_getD hd i
    have htb := val_take_step b i
    generalize hyy : b.getD i 0 = y at *
    have hxy := mul_bound hy hx
    apply AX.sreg [0, 1, 7, 9, 10] (by simp only [pq]; rfl)
    · repeat (first
     | (apply RunO.op rfl; · rfl
        · rfl
        iterate 2 (· (simp (disch := omega) only [go_sem, i64_of, u32_of, u64_of, Nat.reduceLT, Nat.reduceLeDiff, Nat.reduceEqDiff, Nat.reduceAdd, Nat.reduceSub, Nat.reduceMul, Nat.reducePow, Nat.reduceBEq, Int.reduceLE, Int.reduceLT, Int.reduceToNat, Int.reduceEq, Int.reduceNeg, reduceIte, reduceCtorEq, ← Int.natCast_add, ← Int.natCast_mul, hyy]; rfl))
        · (simp only [pb, Nat.reduceLT, Nat.reduceAdd, reduceIte]; rfl))
     | (apply RunO.skip; · rfl
        · (simp only [pb, Nat.reduceLT, Nat.reduceAdd, reduceIte]; rfl)))
      exact RunO.nil
    · repeat (first | exact Keep.nil | (apply Keep.take; · rfl) | (apply Keep.drop; · rfl))
    generalize hss : y * x + c = t at *
    apply AX.sreg [0, 1, 7, 9, 10] (by simp only [pq]; rfl)
    · repeat (first
     | (apply RunO.op rfl; · rfl
        · rfl
        iterate 2 (· (simp (disch := omega) only [go_sem, i64_of, u32_of, u64_of, Nat.reduceLT, Nat.reduceLeDiff, Nat.reduceEqDiff, Nat.reduceAdd, Nat.reduceSub, Nat.reduceMul, Nat.reducePow, Nat.reduceBEq, Int.reduceLE, Int.reduceLT, Int.reduceToNat, Int.reduceEq, Int.reduceNeg, reduceIte, reduceCtorEq, lit_rem, u32n, Nat.mod_mod]; rfl))
        · (simp only [pb, Nat.reduceLT, Nat.reduceAdd, reduceIte]; rfl))
     | (apply RunO.skip; · rfl
        · (simp only [pb, Nat.reduceLT, Nat.reduceAdd, reduceIte]; rfl)))
      exact RunO.nil
    · repeat (first | exact Keep.nil | (apply Keep.take; · rfl) | (apply Keep.drop; · rfl))
    apply AX.reg [0, 1, 7, 8, 9] (by simp only [pq]; rfl)
    · repeat (first
     | (apply RunO.op rfl; · rfl
        · rfl
        iterate 2 (· (simp (disch := omega) only [go_sem, i64_of, u32_of, u64_of, Nat.reduceLT, Nat.reduceLeDiff, Nat.reduceEqDiff, Nat.reduceAdd, Nat.reduceSub, Nat.reduceMul, Nat.reducePow, Nat.reduceBEq, Int.reduceLE, Int.reduceLT, Int.reduceToNat, Int.reduceEq, Int.reduceNeg, reduceIte, reduceCtorEq, lit_quo]; rfl))
        · (simp only [pb, Nat.reduceLT, Nat.reduceAdd, reduceIte]; rfl))
     | (apply RunO.skip; · rfl
        · (simp only [pb, Nat.reduceLT, Nat.reduceAdd, reduceIte]; rfl)))
      exact RunO.nil
    · repeat (first | exact Keep.nil | (apply Keep.take; · rfl) | (apply Keep.drop; · rfl))
    try simp only [thenS_normal, thenS_ret, thenS_exit, blockS_normal, blockS_ret, blockS_exit, backS_ret, backS_exit, if_true]
    apply AX.reg [0, 1, 7, 8, 9] (by simp only [pq]; rfl)
    · repeat (first
     | (apply RunO.op rfl; · rfl
        · rfl
        iterate 2 (· (simp (disch := omega) only [go_sem, i64_of, u32_of, u64_of, Nat.reduceLT, Nat.reduceLeDiff, Nat.reduceEqDiff, Nat.reduceAdd, Nat.reduceSub, Nat.reduceMul, Nat.reducePow, Nat.reduceBEq, Int.reduceLE, Int.reduceLT, Int.reduceToNat, Int.reduceEq, Int.reduceNeg, reduceIte, reduceCtorEq, lit_add]; rfl))
        · (simp only [pb, Nat.reduceLT, Nat.reduceAdd, reduceIte]; rfl))
     | (apply RunO.skip; · rfl
        · (simp only [pb, Nat.reduceLT, Nat.reduceAdd, reduceIte]; rfl)))
      exact RunO.nil
    · repeat (first | exact Keep.nil | (apply Keep.take; · rfl) | (apply Keep.drop; · rfl))
    try simp only [thenS_normal, thenS_ret, thenS_exit, blockS_normal, blockS_ret, blockS_exit, backS_ret, backS_exit, if_true]
    refine ⟨b.length - (i + 1), _, fun _ => 2, by omega,
      ⟨by simp only [LeFr, LeHp, lkp, V.ren, V.renL, Row.ren, V.lt, V.ltL, renL_u, ltL_u, List.length_append, List.length_cons, List.length_nil, List.length_set, id_eq, Option.some.injEq, V.i.injEq, V.b.injEq, V.own.injEq, Row.mk.injEq, decide_true, decide_eq_true_eq, true_and, and_true, Bool.and_true, Bool.true_and, if_true, if_false, and_self, Nat.reduceLT, Nat.reduceLeDiff, Nat.reduceEqDiff, Nat.reduceAdd, Nat.reduceSub, Nat.reduceMul, Nat.reducePow, Nat.reduceBEq, Int.reduceLE, Int.reduceLT, Int.reduceToNat, Int.reduceEq, Int.reduceNeg, reduceIte, reduceCtorEq] <;> (first | done | trivial | (and_intros <;> first | trivial | omega | assumption)), by simp only [LeFr, LeHp, lkp, V.ren, V.renL, Row.ren, V.lt, V.ltL, renL_u, ltL_u, List.length_append, List.length_cons, List.length_nil, List.length_set, id_eq, Option.some.injEq, V.i.injEq, V.b.injEq, V.own.injEq, Row.mk.injEq, decide_true, decide_eq_true_eq, true_and, and_true, Bool.and_true, Bool.true_and, if_true, if_false, and_self, Nat.reduceLT, Nat.reduceLeDiff, Nat.reduceEqDiff, Nat.reduceAdd, Nat.reduceSub, Nat.reduceMul, Nat.reducePow, Nat.reduceBEq, Int.reduceLE, Int.reduceLT, Int.reduceToNat, Int.reduceEq, Int.reduceNeg, reduceIte, reduceCtorEq] <;> (first | done | trivial | (and_intros <;> first | trivial | omega | assumption)), by simp [Apart], by first | exact Nat.zero_le _ | simp, by intro n hn; first | rfl | exact absurd hn (Nat.not_lt_zero _)⟩
      , ⟨i + 1, t / 4294967296, o ++ [t % 4294967296], rfl, by omega, by simp [ho]; omega, ?_, by omega, ?_, rfl⟩⟩
    · rw [Dg_append, Dg_cons]; exact ⟨hdo, Nat.mod_lt _ (by omega), Dg_nil⟩
    · have h3 := sum_step (s := t) ho (by omega)
      rw [htb, Nat.pow_succ]
      rw [Nat.pow_succ, Nat.pow_add] at h3
      rw [← hss] at h3 ⊢
      grind
  · apply AX.sreg [0, 1, 7, 8, 9, 16] (by simp only [pq]; rfl)
    · repeat (first
     | (apply RunO.op rfl; · rfl
        · rfl
        iterate 2 (· (simp (disch := omega) only [go_sem, i64_of, u32_of, u64_of, Nat.reduceLT, Nat.reduceLeDiff, Nat.reduceEqDiff, Nat.reduceAdd, Nat.reduceSub, Nat.reduceMul, Nat.reducePow, Nat.reduceBEq, Int.reduceLE, Int.reduceLT, Int.reduceToNat, Int.reduceEq, Int.reduceNeg, reduceIte, reduceCtorEq]; rfl))
        · (simp only [pb, Nat.reduceLT, Nat.reduceAdd, reduceIte]; rfl))
     | (apply RunO.skip; · rfl
        · (simp only [pb, Nat.reduceLT, Nat.reduceAdd, reduceIte]; rfl)))
      exact RunO.nil
    · repeat (first | exact Keep.nil | (apply Keep.take; · rfl) | (apply Keep.drop; · rfl))
    refine AX.cond_false (by simp only [valOf, lkp, if_true, if_false, Nat.reduceEqDiff, reduceIte]) ?_
    refine AX.exit ?_
    try simp only [thenS_normal, thenS_ret, thenS_exit, blockS_normal, blockS_ret, blockS_exit, backS_ret, backS_exit, if_true]
    have hi' : i = b.length := by omega
    have hd2 : Dg (o ++ [c]) := by rw [Dg_append, Dg_cons]; exact ⟨hdo, by omega, Dg_nil⟩
    have c3 := rntrim_ok (o ++ [c]) hd2 (by simp; omega)
    have hv : val (o ++ [c]) = 4294967296 ^ s * (x * val b) := by
      rw [val_append, ho, Nat.pow_add]
      simp only [val, Nat.mul_zero, Nat.add_zero]
      rw [hval, hi', List.take_length]
    rw [hv] at c3
    have hcm : c % 4294967296 = c := Nat.mod_eq_of_lt (by omega)
    apply AX.sreg [6] (by simp only [pq]; rfl)
    · repeat (first
     | (apply RunO.op rfl; · rfl
        · rfl
        iterate 2 (· (simp (disch := omega) only [go_sem, i64_of, u32_of, u64_of, Nat.reduceLT, Nat.reduceLeDiff, Nat.reduceEqDiff, Nat.reduceAdd, Nat.reduceSub, Nat.reduceMul, Nat.reducePow, Nat.reduceBEq, Int.reduceLE, Int.reduceLT, Int.reduceToNat, Int.reduceEq, Int.reduceNeg, reduceIte, reduceCtorEq, u32n, hcm]; rfl))
        · (simp only [pb, Nat.reduceLT, Nat.reduceAdd, reduceIte]; rfl))
     | (apply RunO.call rfl; · rfl
        · rfl
        · (simp (disch := omega) only [go_sem, i64_of, u32_of, u64_of, Nat.reduceLT, Nat.reduceLeDiff, Nat.reduceEqDiff, Nat.reduceAdd, Nat.reduceSub, Nat.reduceMul, Nat.reducePow, Nat.reduceBEq, Int.reduceLE, Int.reduceLT, Int.reduceToNat, Int.reduceEq, Int.reduceNeg, reduceIte, reduceCtorEq, u32n, hcm]; rfl)
        · rfl
        · (first | exact c3)
        · (simp (disch := omega) only [go_sem, i64_of, u32_of, u64_of, Nat.reduceLT, Nat.reduceLeDiff, Nat.reduceEqDiff, Nat.reduceAdd, Nat.reduceSub, Nat.reduceMul, Nat.reducePow, Nat.reduceBEq, Int.reduceLE, Int.reduceLT, Int.reduceToNat, Int.reduceEq, Int.reduceNeg, reduceIte, reduceCtorEq, u32n, hcm]; rfl)
        · (simp only [pb, Nat.reduceLT, Nat.reduceAdd, reduceIte]; rfl))
     | (apply RunO.skip; · rfl
        · (simp only [pb, Nat.reduceLT, Nat.reduceAdd, reduceIte]; rfl)))
      exact RunO.nil
    · repeat (first | exact Keep.nil | (apply Keep.take; · rfl) | (apply Keep.drop; · rfl))
    refine AX.ret (And.intro (Or.inl rfl) ?_)
    exact Done.sl rfl

end Go.Proofs.Ytlhobedecoeohaa
