/- The long division: the loop that adds the divisor back. -/
import Derived.Test.YtlhobedecoeohaaNatU
set_option linter.unusedVariables false
set_option linter.unusedSimpArgs false
namespace Go.Proofs.Ytlhobedecoeohaa
open Go Go.Proofs.Ytlhobedecoeohaa.Lift

set_option maxRecDepth 20000 in
set_option maxHeartbeats 4000000 in
theorem back_step {c : Code} (hc : partB 34 7 = some c) {O M : Nat → Prop} {w0 : World} {K L k s v g : Nat} {r q : List Nat} (hK : K < 2 ^ 27) (hk : k + L ≤ K) (hvL : (digits v).length = L)
    (hr : r.length = K + 1) (hdr : Dg r) {Q : Exit → St → Prop}
    (hQ : ∀ (c : Nat) (t : List Nat), t.length = K + 1 → Dg t → c ≤ 1 → t.drop (k + L) = r.drop (k + L) → val t + 4294967296 ^ (k + L) * c = val r + 4294967296 ^ k * v →
      Q (.exit 7) ⟨[(19, .i .u64 c), (16, .i .u64 g), (14, .i .i64 k), (13, .own 2 0 (K + 1 - L) 1), (12, .i .i64 L), (11, nv v), (10, .own 0 0 (K + 1) 1), (9, .i .u64 s)], [(2, ⟨50, q.map u⟩), (0, ⟨50, t.map u⟩)], 3⟩) :
    AX Try.prog ⟨315, O, M, w0, 0, fun _ => none⟩ c ⟨[(236, .i .i64 0), (235, .i .i64 L), (19, .i .u64 0), (16, .i .u64 g), (14, .i .i64 k), (13, .own 2 0 (K + 1 - L) 1), (12, .i .i64 L), (11, nv v), (10, .own 0 0 (K + 1) 1), (9, .i .u64 s)], [(2, ⟨50, q.map u⟩), (0, ⟨50, r.map u⟩)], 3⟩ Q := by
  simp only [partB, Try.func34, Option.bind_some, findB, if_true, if_false, Nat.reduceEqDiff, reduceIte] at hc
  cases hc
  have hdv := Dg_digits v
  refine AX.loop (fun N st => ∃ (i c : Nat) (t : List Nat), N = L - i ∧ i ≤ L ∧ t.length = K + 1 ∧ Dg t ∧ c ≤ 1 ∧ t.drop (k + i) = r.drop (k + i) ∧ val t + 4294967296 ^ (k + i) * c = val r + 4294967296 ^ k * val ((digits v).take i) ∧
    st = ⟨[(236, .i .i64 i), (235, .i .i64 L), (19, .i .u64 c), (16, .i .u64 g), (14, .i .i64 k), (13, .own 2 0 (K + 1 - L) 1), (12, .i .i64 L), (11, nv v), (10, .own 0 0 (K + 1) 1), (9, .i .u64 s)], [(2, ⟨50, q.map u⟩), (0, ⟨50, t.map u⟩)], 3⟩) L
    ⟨0, 0, r, rfl, Nat.zero_le _, hr, hdr, by omega, rfl, by simp [val], rfl⟩ ?_
  rintro N st ⟨i, c, t, rfl, hi, ht, hdt, hc, hdrop, hval, rfl⟩
  by_cases h : i < L
  · apply AX.sreg [9, 10, 11, 12, 13, 14, 16, 19, 235, 236, 237] (by simp only [pq]; rfl)
    · repeat (first
     | (apply RunO.op rfl; · rfl
        · rfl
        iterate 2 (· (simp (disch := omega) only [go_sem, i64_of, u32_of, u64_of, Nat.reduceLT, Nat.reduceLeDiff, Nat.reduceEqDiff, Nat.reduceAdd, Nat.reduceSub, Nat.reduceMul, Nat.reducePow, Nat.reduceBEq, Int.reduceLE, Int.reduceLT, Int.reduceToNat, Int.reduceEq, Int.reduceNeg, reduceIte, reduceCtorEq]; rfl))
        · (simp only [pb, Nat.reduceLT, Nat.reduceAdd, reduceIte]; rfl))
     | (apply RunO.skip; · rfl
        · (simp only [pb, Nat.reduceLT, Nat.reduceAdd, reduceIte]; rfl)))
      exact RunO.nil
    · repeat (first | exact Keep.nil | (apply Keep.take; · rfl) | (apply Keep.drop; · rfl))
    refine AX.seq ?_
    refine AX.cond_true (by simp only [valOf, lkp, if_true, if_false, Nat.reduceEqDiff, reduceIte]) ?_
    apply AX.keep (l := [9, 10, 11, 12, 13, 14, 16, 19, 235, 236])
    · repeat (first | exact Keep.nil | (apply Keep.take; · rfl) | (apply Keep.drop; · rfl))
    refine AX.skip ?_
    try simp only [thenS_normal, thenS_ret, thenS_exit, blockS_normal, blockS_ret, blockS_exit, backS_ret, backS_exit, if_true]
    refine AX.seq ?_
    refine AX.block ?_
    have hx := Dg_getD hdt (k + i)
    have hy := Dg_getD hdv i
    have htv := val_take_step (digits v) i
    have hset := fun z => val_set t (k + i) z (by omega)
    generalize hxx : t.getD (k + i) 0 = x at *
    generalize hyy : (digits v).getD i 0 = y at *
    have hki : ((i : Nat) : Int) + ((k : Nat) : Int) = ((k + i : Nat) : Int) := by omega
    obtain ⟨S, hS⟩ : ∃ S, S = c + (x + y) := ⟨_, rfl⟩
    have hS64 : S < 18446744073709551616 := by omega
    have hSd : S / 4294967296 ≤ 1 := by omega
    have hSm : S % 4294967296 < 4294967296 := Nat.mod_lt _ (by omega)
    apply AX.sreg [9, 10, 11, 12, 13, 14, 16, 19, 24, 235, 236] (by simp only [pq]; rfl)
    · repeat (first
     | (apply RunO.op rfl; · rfl
        · rfl
        iterate 2 (· (simp (disch := omega) only [go_sem, i64_of, u32_of, u64_of, Nat.reduceLT, Nat.reduceLeDiff, Nat.reduceEqDiff, Nat.reduceAdd, Nat.reduceSub, Nat.reduceMul, Nat.reducePow, Nat.reduceBEq, Int.reduceLE, Int.reduceLT, Int.reduceToNat, Int.reduceEq, Int.reduceNeg, reduceIte, reduceCtorEq]; rfl))
        · (simp only [pb, Nat.reduceLT, Nat.reduceAdd, reduceIte]; rfl))
     | (apply RunO.skip; · rfl
        · (simp only [pb, Nat.reduceLT, Nat.reduceAdd, reduceIte]; rfl)))
      exact RunO.nil
    · repeat (first | exact Keep.nil | (apply Keep.take; · rfl) | (apply Keep.drop; · rfl))
    apply AX.sdreg [9, 10, 11, 12, 13, 14, 16, 19, 24, 235, 236] (by kernel_rfl) (by simp only [pq]; rfl)
    · repeat (first
     | (apply RunD.op rfl; · rfl
        · rfl
        iterate 2 (· (simp (disch := omega) only [go_sem, i64_of, u32_of, u64_of, Nat.reduceLT, Nat.reduceLeDiff, Nat.reduceEqDiff, Nat.reduceAdd, Nat.reduceSub, Nat.reduceMul, Nat.reducePow, Nat.reduceBEq, Int.reduceLE, Int.reduceLT, Int.reduceToNat, Int.reduceEq, Int.reduceNeg, reduceIte, reduceCtorEq, hki, hxx, hyy, hvL, ← Int.natCast_add, ← hS]; rfl))
        · (simp only [pb, Nat.reduceLT, Nat.reduceAdd, reduceIte]; rfl)
        · rfl)
     | (apply RunD.skip; · rfl
        · (simp only [pb, Nat.reduceLT, Nat.reduceAdd, reduceIte]; rfl)
        · rfl))
      exact RunD.nil
    · repeat (first | exact Keep.nil | (apply Keep.take; · rfl) | (apply Keep.drop; · rfl))
    · kernel_rfl
    apply AX.sreg [9, 10, 11, 12, 13, 14, 16, 19, 24, 235, 236] (by simp only [pq]; rfl)
    · repeat (first
     | (apply RunO.op rfl; · rfl
        · rfl
        iterate 2 (· (simp (disch := omega) only [go_sem, i64_of, u32_of, u64_of, Nat.reduceLT, Nat.reduceLeDiff, Nat.reduceEqDiff, Nat.reduceAdd, Nat.reduceSub, Nat.reduceMul, Nat.reducePow, Nat.reduceBEq, Int.reduceLE, Int.reduceLT, Int.reduceToNat, Int.reduceEq, Int.reduceNeg, reduceIte, reduceCtorEq, hki, u32n]; rfl))
        · (simp only [pb, Nat.reduceLT, Nat.reduceAdd, reduceIte]; rfl))
     | (apply RunO.skip; · rfl
        · (simp only [pb, Nat.reduceLT, Nat.reduceAdd, reduceIte]; rfl)))
      exact RunO.nil
    · repeat (first | exact Keep.nil | (apply Keep.take; · rfl) | (apply Keep.drop; · rfl))
    apply AX.reg [9, 10, 11, 12, 13, 14, 16, 19, 235, 236] (by simp only [pq]; rfl)
    · repeat (first
     | (apply RunO.op rfl; · rfl
        · rfl
        iterate 2 (· (simp (disch := omega) only [go_sem, i64_of, u32_of, u64_of, Nat.reduceLT, Nat.reduceLeDiff, Nat.reduceEqDiff, Nat.reduceAdd, Nat.reduceSub, Nat.reduceMul, Nat.reducePow, Nat.reduceBEq, Int.reduceLE, Int.reduceLT, Int.reduceToNat, Int.reduceEq, Int.reduceNeg, reduceIte, reduceCtorEq, shr32]; rfl))
        · (simp only [pb, Nat.reduceLT, Nat.reduceAdd, reduceIte]; rfl))
     | (apply RunO.skip; · rfl
        · (simp only [pb, Nat.reduceLT, Nat.reduceAdd, reduceIte]; rfl)))
      exact RunO.nil
    · repeat (first | exact Keep.nil | (apply Keep.take; · rfl) | (apply Keep.drop; · rfl))
    try simp only [thenS_normal, thenS_ret, thenS_exit, blockS_normal, blockS_ret, blockS_exit, backS_ret, backS_exit, if_true]
    apply AX.reg [9, 10, 11, 12, 13, 14, 16, 19, 235, 236] (by simp only [pq]; rfl)
    · repeat (first
     | (apply RunO.op rfl; · rfl
        · rfl
        iterate 2 (· (simp (disch := omega) only [go_sem, i64_of, u32_of, u64_of, Nat.reduceLT, Nat.reduceLeDiff, Nat.reduceEqDiff, Nat.reduceAdd, Nat.reduceSub, Nat.reduceMul, Nat.reducePow, Nat.reduceBEq, Int.reduceLE, Int.reduceLT, Int.reduceToNat, Int.reduceEq, Int.reduceNeg, reduceIte, reduceCtorEq, lit_add]; rfl))
        · (simp only [pb, Nat.reduceLT, Nat.reduceAdd, reduceIte]; rfl))
     | (apply RunO.skip; · rfl
        · (simp only [pb, Nat.reduceLT, Nat.reduceAdd, reduceIte]; rfl)))
      exact RunO.nil
    · repeat (first | exact Keep.nil | (apply Keep.take; · rfl) | (apply Keep.drop; · rfl))
    try simp only [thenS_normal, thenS_ret, thenS_exit, blockS_normal, blockS_ret, blockS_exit, backS_ret, backS_exit, if_true]
    refine ⟨L - (i + 1), _, id, by omega,
      ⟨by simp only [LeFr, LeHp, lkp, V.ren, V.renL, Row.ren, V.lt, V.ltL, renL_u, ltL_u, List.length_append, List.length_cons, List.length_nil, List.length_set, id_eq, Option.some.injEq, V.i.injEq, V.b.injEq, V.own.injEq, Row.mk.injEq, decide_true, decide_eq_true_eq, true_and, and_true, Bool.and_true, Bool.true_and, if_true, if_false, and_self, Nat.reduceLT, Nat.reduceLeDiff, Nat.reduceEqDiff, Nat.reduceAdd, Nat.reduceSub, Nat.reduceMul, Nat.reducePow, Nat.reduceBEq, Int.reduceLE, Int.reduceLT, Int.reduceToNat, Int.reduceEq, Int.reduceNeg, reduceIte, reduceCtorEq] <;> (first | done | trivial | (and_intros <;> first | trivial | omega | assumption)), by simp only [LeFr, LeHp, lkp, V.ren, V.renL, Row.ren, V.lt, V.ltL, renL_u, ltL_u, List.length_append, List.length_cons, List.length_nil, List.length_set, id_eq, Option.some.injEq, V.i.injEq, V.b.injEq, V.own.injEq, Row.mk.injEq, decide_true, decide_eq_true_eq, true_and, and_true, Bool.and_true, Bool.true_and, if_true, if_false, and_self, Nat.reduceLT, Nat.reduceLeDiff, Nat.reduceEqDiff, Nat.reduceAdd, Nat.reduceSub, Nat.reduceMul, Nat.reducePow, Nat.reduceBEq, Int.reduceLE, Int.reduceLT, Int.reduceToNat, Int.reduceEq, Int.reduceNeg, reduceIte, reduceCtorEq] <;> (first | done | trivial | (and_intros <;> first | trivial | omega | assumption)), by simp [Apart], by first | exact Nat.zero_le _ | simp, by intro n hn; first | rfl | exact absurd hn (Nat.not_lt_zero _)⟩
      , ⟨i + 1, S / 4294967296, t.set (k + i) (S % 4294967296), rfl, by omega, by simp [ht], Dg_set hdt hSm, hSd, ?_, ?_, rfl⟩⟩
    · have := congrArg (List.drop 1) hdrop
      rw [List.drop_drop, List.drop_drop] at this
      rw [← Nat.add_assoc, drop_set_succ, this]
    · have e := mul_step (hset (S % 4294967296)) hS.symm
      rw [htv, ← Nat.add_assoc, Nat.pow_succ, e, hval, Nat.mul_add, ← Nat.mul_assoc, ← Nat.pow_add, Nat.add_assoc]
  · apply AX.sreg [9, 10, 11, 12, 13, 14, 16, 19, 237] (by simp only [pq]; rfl)
    · repeat (first
     | (apply RunO.op rfl; · rfl
        · rfl
        iterate 2 (· (simp (disch := omega) only [go_sem, i64_of, u32_of, u64_of, Nat.reduceLT, Nat.reduceLeDiff, Nat.reduceEqDiff, Nat.reduceAdd, Nat.reduceSub, Nat.reduceMul, Nat.reducePow, Nat.reduceBEq, Int.reduceLE, Int.reduceLT, Int.reduceToNat, Int.reduceEq, Int.reduceNeg, reduceIte, reduceCtorEq]; rfl))
        · (simp only [pb, Nat.reduceLT, Nat.reduceAdd, reduceIte]; rfl))
     | (apply RunO.skip; · rfl
        · (simp only [pb, Nat.reduceLT, Nat.reduceAdd, reduceIte]; rfl)))
      exact RunO.nil
    · repeat (first | exact Keep.nil | (apply Keep.take; · rfl) | (apply Keep.drop; · rfl))
    refine AX.seq ?_
    refine AX.cond_false (by simp only [valOf, lkp, if_true, if_false, Nat.reduceEqDiff, reduceIte]) ?_
    apply AX.keep (l := [9, 10, 11, 12, 13, 14, 16, 19])
    · repeat (first | exact Keep.nil | (apply Keep.take; · rfl) | (apply Keep.drop; · rfl))
    refine AX.exit ?_
    try simp only [thenS_normal, thenS_ret, thenS_exit, blockS_normal, blockS_ret, blockS_exit, backS_ret, backS_exit, if_true]
    have hiL : i = L := by omega
    subst hiL
    rw [List.take_of_length_le (by omega), val_digits] at hval
    exact hQ c t ht hdt hc hdrop hval

end Go.Proofs.Ytlhobedecoeohaa
