/- The law RatioLowest. -/
import Derived.Test.YtmhjcmochemndaaGT
import Derived.KernelRfl
set_option linter.unusedVariables false
set_option linter.unusedSimpArgs false
namespace Go.Proofs.Ytmhjcmochemndaa
open Go Go.Proofs.Ytmhjcmochemndaa.Lift
attribute [local irreducible] Lift.PCall Lift.HCall

/-- Fractions in lowest terms. -/
def IsVs (els : List V) : Prop := els.length < 2 ^ 20 ∧ ∀ i, i < els.length → ∃ q : Rat, els.getD i .junk = rV q ∧ rL q < 2 ^ 34

set_option maxRecDepth 20000 in
set_option maxHeartbeats 8000000 in
theorem ratioLowest_ok (s1 s2 : Bool) (a1 b1 a2 b2 : List Nat) (ha1 : Dg a1) (hb1 : Dg b1) (ha2 : Dg a2) (hb2 : Dg b2) (la1 : a1.length < 2 ^ 62) (lb1 : b1.length < 2 ^ 62) (la2 : a2.length < 2 ^ 62) (lb2 : b2.length < 2 ^ 62) :
    PCall Try.prog 11 [rR s1 a1 b1, rR s2 a2 b2] (.b true) [] := by
  refine PCall.of_ax Try.call11 Try.func11 rfl (by simp [Try.ntmps11]) fun O w => ?_
  simp only [Try.ntmps11, Try.results11, argFr]
  have cf := lfew2 12 (by omega) s1 s2 a1 b1 a2 b2 la1 lb1 la2 lb2
  have caw := lawake_ok
  refine AX.sregAV [2, 3] (hq := ?_)
  refine AX.seq ?_
  by_cases h : (okR 12 (s1, a1, b1) && okR 12 (s2, a2, b2)) = true
  · rw [h] at cf
    simp only [Bool.and_eq_true, okR_iff] at h
    obtain ⟨⟨h1, h2⟩, h3, h4⟩ := h
    have qa := IsQ.raw (s := s1) ha1 hb1 h1 h2
    have qb := IsQ.raw (s := s2) ha2 hb2 h3 h4
    generalize rq s1 (val a1) (val b1) = A at *
    generalize rq s2 (val a2) (val b2) = B at *
    have lA := qa.rL (by omega)
    have lB := qb.rL (by omega)
    have lAB := rL_add A B lA lB
    have pAB := rL_mul A B lA lB (by omega)
    have dAB := rL_sub A B lA lB
    have vAB := rL_div A B lA lB (by omega)
    have c1 := qadd_ok qa qb (by omega)
    have c2 := qsub_ok qa qb (by omega) (by omega)
    have c3 := qmul_ok qa qb (by omega)
    have c4 := qneg_ok qa (by omega)
    have c5 := qleast_ok qa qb (by omega)
    have hqs : IsQs [rR s1 a1 b1, rR s2 a2 b2, rR s1 a1 b1] [A, B, A] 12 := by
      refine ⟨rfl, fun i hi => ?_⟩
      have : i = 0 ∨ i = 1 ∨ i = 2 := by simp at hi; omega
      rcases this with rfl | rfl | rfl
      · exact qa
      · exact qb
      · exact qa
    have c6 : PCall Try.prog 44 [.sl [rR s1 a1 b1, rR s2 a2 b2, rR s1 a1 b1]] (rV (sumTo [A, B, A] 3)) [] := qsum_ok hqs (by simp) (by omega)
    have l6 := sumTo_len hqs (by omega) 3 (by simp)
    have c7 := qdiv_ok qa qb (by omega)
    unfold qdivV at c7
    have l4 : rL (-A) ≤ 12 := by rw [rL_neg]; exact lA
    have l5 : rL (if B < A then B else A) ≤ 12 := by split <;> assumption
    clear hqs qa qb
    generalize sumTo [A, B, A] 3 = x6 at *
    generalize (if B < A then B else A) = x5 at *
    generalize -A = x4 at *
    generalize A * B = x3 at *
    generalize A - B = x2 at *
    generalize A + B = x1 at *
    have V6 : IsVs [rV x1, rV x2, rV x3, rV x4, rV x5, rV x6] := by
      refine ⟨by simp, fun i hi => ?_⟩
      have : i = 0 ∨ i = 1 ∨ i = 2 ∨ i = 3 ∨ i = 4 ∨ i = 5 := by simp at hi; omega
      rcases this with rfl | rfl | rfl | rfl | rfl | rfl <;> exact ⟨_, rfl, by omega⟩
    have V7 : IsVs [rV x1, rV x2, rV x3, rV x4, rV x5, rV x6, rV (A / B)] := by
      refine ⟨by simp, fun i hi => ?_⟩
      have : i = 0 ∨ i = 1 ∨ i = 2 ∨ i = 3 ∨ i = 4 ∨ i = 5 ∨ i = 6 := by simp at hi; omega
      rcases this with rfl | rfl | rfl | rfl | rfl | rfl | rfl <;> exact ⟨_, rfl, by omega⟩
    clear lA lB lAB pAB dAB vAB l4 l5 l6
    refine AX.sregCV [2, 3, 13] (And.intro cf True.intro) (hq := ?_)
    refine AX.condF (h := ?_)
    refine AX.keepA [2, 3] (h := ?_)
    refine AX.skip ?_
    try simp only [thenS_normal, thenS_ret, thenS_exit, blockS_normal, blockS_ret, blockS_exit, backS_ret, backS_exit, if_true]
    apply AX.sdreg [2, 3, 5] (by kernel_rfl) (by simp only [pq]; rfl)
    · repeat (first
     | (apply RunD.mkS (v := .sl [rR s1 a1 b1, rR s2 a2 b2, rR s1 a1 b1]) rfl; · rfl
        · (simp only [opsOf, valsOf, valOf, lkp, ofConst, ofCell, Array.toList, Option.toList, List.map_cons, List.map_nil, List.cons_append, List.nil_append, List.append_nil, Nat.reduceEqDiff, Nat.reducePow, Nat.reduceLT, Nat.reduceLeDiff, reduceIte, if_true, if_false, IntKind.min, IntKind.max, IntKind.bits, IntKind.signed, Int.reduceLE, Int.reduceNeg, Int.reducePow, Int.reduceSub, and_self, Bool.false_eq_true, Nat.reduceSub]; rfl)
        · (simp (disch := omega) only [go_sem, i64_of, u32_of, u64_of, Nat.reduceLT, Nat.reduceLeDiff, Nat.reduceEqDiff, Nat.reduceAdd, Nat.reduceSub, Nat.reduceMul, Nat.reducePow, Nat.reduceBEq, Int.reduceLE, Int.reduceLT, Int.reduceToNat, Int.reduceEq, Int.reduceNeg, reduceIte, reduceCtorEq]; rfl)
        · rfl
        · rfl
        · kernel_rfl
        · kernel_rfl
        · (simp only [pb, Nat.reduceLT, Nat.reduceAdd, reduceIte]; rfl)
        · rfl)
     | (apply RunD.op rfl; · rfl
        · (simp only [opsOf, valsOf, valOf, lkp, ofConst, ofCell, Array.toList, Option.toList, List.map_cons, List.map_nil, List.cons_append, List.nil_append, List.append_nil, Nat.reduceEqDiff, Nat.reducePow, Nat.reduceLT, Nat.reduceLeDiff, reduceIte, if_true, if_false, IntKind.min, IntKind.max, IntKind.bits, IntKind.signed, Int.reduceLE, Int.reduceNeg, Int.reducePow, Int.reduceSub, and_self, Bool.false_eq_true, Nat.reduceSub]; rfl)
        iterate 2 (· (simp (disch := omega) only [go_sem, i64_of, u32_of, u64_of, Nat.reduceLT, Nat.reduceLeDiff, Nat.reduceEqDiff, Nat.reduceAdd, Nat.reduceSub, Nat.reduceMul, Nat.reducePow, Nat.reduceBEq, Int.reduceLE, Int.reduceLT, Int.reduceToNat, Int.reduceEq, Int.reduceNeg, reduceIte, reduceCtorEq]; rfl))
        · (simp only [pb, Nat.reduceLT, Nat.reduceAdd, reduceIte]; rfl)
        · rfl)
     | (apply RunD.call rfl; · rfl
        · (simp only [opsOf, valsOf, valOf, lkp, ofConst, ofCell, Array.toList, Option.toList, List.map_cons, List.map_nil, List.cons_append, List.nil_append, List.append_nil, Nat.reduceEqDiff, Nat.reducePow, Nat.reduceLT, Nat.reduceLeDiff, reduceIte, if_true, if_false, IntKind.min, IntKind.max, IntKind.bits, IntKind.signed, Int.reduceLE, Int.reduceNeg, Int.reducePow, Int.reduceSub, and_self, Bool.false_eq_true, Nat.reduceSub]; rfl)
        · rfl
        · (first | (simp only [cnlL, cnl, List.append_nil, List.cons_append, List.nil_append]; first | exact c1 | exact c2 | exact c3 | exact c4 | exact c5 | exact c6) | (first | exact c1 | exact c2 | exact c3 | exact c4 | exact c5 | exact c6))
        · rfl
        · (simp only [pb, Nat.reduceLT, Nat.reduceAdd, reduceIte]; rfl)
        · rfl)
     | (apply RunD.skip; · rfl
        · (simp only [pb, Nat.reduceLT, Nat.reduceAdd, reduceIte]; rfl)
        · rfl))
      exact RunD.nil
    · repeat (first | exact Keep.nil | (apply Keep.take; · rfl) | (apply Keep.drop; · rfl))
    · kernel_rfl
    refine AX.cut (fun st => ∀ (c : Code) (Q : Exit → St → Prop), (∀ els hp nx, IsVs els → AX Try.prog ⟨60, O, fun _ => False, w, 0, fun _ => none⟩ c ⟨[(5, .sl els)], hp, nx⟩ Q) → AX Try.prog ⟨60, O, fun _ => False, w, 0, fun _ => none⟩ c st Q) ?_ ?_
    · by_cases hB : B = 0
      · rw [if_pos hB] at c7
        refine AX.sregCV [5, 6, 7] (And.intro c7 True.intro) (hq := ?_)
        refine AX.sregAV [5, 42] (hq := ?_)
        refine AX.condF (h := ?_)
        refine AX.keepA [5] (h := ?_)
        refine AX.skip ?_
        try simp only [thenS_normal, thenS_ret, thenS_exit, blockS_normal, blockS_ret, blockS_exit, backS_ret, backS_exit, if_true]
        refine ⟨by first | exact trivial | rfl, fun c Q hk => ?_⟩
        refine AX.frozen 5 [rV x1, rV x2, rV x3, rV x4, rV x5, rV x6] rfl rfl (by kernel_rfl) (by kernel_rfl) ?_
        refine AX.keepA [5] (h := ?_)
        exact hk _ _ _ V6
      · rw [if_neg hB] at c7
        refine AX.sregCV [5, 6, 7] (And.intro c7 True.intro) (hq := ?_)
        refine AX.sregAV [5, 6, 42] (hq := ?_)
        refine AX.condT (h := ?_)
        refine AX.regAV [5] (hq := ?_)
        refine ⟨by first | exact trivial | rfl, fun c Q hk => ?_⟩
        refine AX.frozen 5 [rV x1, rV x2, rV x3, rV x4, rV x5, rV x6, rV (A / B)] rfl rfl (by kernel_rfl) (by kernel_rfl) ?_
        refine AX.keepA [5] (h := ?_)
        exact hk _ _ _ V7
    intro st hst
    refine hst _ _ fun els hp nx hV => ?_
    clear hst
    refine AX.weaken id (st' := ⟨[(5, .sl els)], [], nx⟩)
      leA
      ?_
    refine AX.seq ?_
    refine AX.sregAV [5, 8] (hq := ?_)
    refine AX.block ?_
    refine AX.loop (fun N st => ∃ i : Nat, i ≤ els.length ∧ N = els.length - i ∧ st = ⟨[(8, .i .i64 i), (5, .sl els)], [], nx⟩) els.length ⟨0, Nat.zero_le _, rfl, rfl⟩ ?_
    rintro N st ⟨i, hi, rfl, rfl⟩
    have hel := hV.1
    refine AX.seq ?_
    by_cases h1 : i < els.length
    · obtain ⟨q, he, hq⟩ := hV.2 i h1
      have hix := fun x y => effIxR (x := x) (y := y) h1 he
      have c8 := qright_ok q hq
      refine AX.sregAV [5, 8, 50] (hq := ?_)
      refine AX.condT (h := ?_)
      refine AX.keepA [5, 8] (h := ?_)
      refine AX.skip ?_
      try simp only [thenS_normal, thenS_ret, thenS_exit, blockS_normal, blockS_ret, blockS_exit, backS_ret, backS_exit, if_true]
      refine AX.seq ?_
      refine AX.block ?_
      apply AX.sreg [5, 8, 58] (by simp only [pq]; rfl)
      · repeat (first
       | (apply RunO.op rfl; · rfl
          · (simp only [opsOf, valsOf, valOf, lkp, ofConst, ofCell, Array.toList, Option.toList, List.map_cons, List.map_nil, List.cons_append, List.nil_append, List.append_nil, Nat.reduceEqDiff, Nat.reducePow, Nat.reduceLT, Nat.reduceLeDiff, reduceIte, if_true, if_false, IntKind.min, IntKind.max, IntKind.bits, IntKind.signed, Int.reduceLE, Int.reduceNeg, Int.reducePow, Int.reduceSub, and_self, Bool.false_eq_true, Nat.reduceSub]; rfl)
          · first | exact hix _ _ | (simp (disch := omega) only [go_sem, i64_of, u32_of, u64_of, Nat.reduceLT, Nat.reduceLeDiff, Nat.reduceEqDiff, Nat.reduceAdd, Nat.reduceSub, Nat.reduceMul, Nat.reducePow, Nat.reduceBEq, Int.reduceLE, Int.reduceLT, Int.reduceToNat, Int.reduceEq, Int.reduceNeg, reduceIte, reduceCtorEq]; rfl)
          · (simp (disch := omega) only [go_sem, i64_of, u32_of, u64_of, Nat.reduceLT, Nat.reduceLeDiff, Nat.reduceEqDiff, Nat.reduceAdd, Nat.reduceSub, Nat.reduceMul, Nat.reducePow, Nat.reduceBEq, Int.reduceLE, Int.reduceLT, Int.reduceToNat, Int.reduceEq, Int.reduceNeg, reduceIte, reduceCtorEq]; rfl)
          · (simp only [pb, Nat.reduceLT, Nat.reduceAdd, reduceIte]; rfl))
       | (apply RunO.call rfl; · rfl
          · (simp only [opsOf, valsOf, valOf, lkp, ofConst, ofCell, Array.toList, Option.toList, List.map_cons, List.map_nil, List.cons_append, List.nil_append, List.append_nil, Nat.reduceEqDiff, Nat.reducePow, Nat.reduceLT, Nat.reduceLeDiff, reduceIte, if_true, if_false, IntKind.min, IntKind.max, IntKind.bits, IntKind.signed, Int.reduceLE, Int.reduceNeg, Int.reducePow, Int.reduceSub, and_self, Bool.false_eq_true, Nat.reduceSub]; rfl)
          · (simp (disch := omega) only [go_sem, i64_of, u32_of, u64_of, Nat.reduceLT, Nat.reduceLeDiff, Nat.reduceEqDiff, Nat.reduceAdd, Nat.reduceSub, Nat.reduceMul, Nat.reducePow, Nat.reduceBEq, Int.reduceLE, Int.reduceLT, Int.reduceToNat, Int.reduceEq, Int.reduceNeg, reduceIte, reduceCtorEq]; rfl)
          · rfl
          · (first | exact c8)
          · (simp (disch := omega) only [go_sem, i64_of, u32_of, u64_of, Nat.reduceLT, Nat.reduceLeDiff, Nat.reduceEqDiff, Nat.reduceAdd, Nat.reduceSub, Nat.reduceMul, Nat.reducePow, Nat.reduceBEq, Int.reduceLE, Int.reduceLT, Int.reduceToNat, Int.reduceEq, Int.reduceNeg, reduceIte, reduceCtorEq]; rfl)
          · (simp only [pb, Nat.reduceLT, Nat.reduceAdd, reduceIte]; rfl))
       | (apply RunO.skip; · rfl
          · (simp only [pb, Nat.reduceLT, Nat.reduceAdd, reduceIte]; rfl)))
        exact RunO.nil
      · repeat (first | exact Keep.nil | (apply Keep.take; · rfl) | (apply Keep.drop; · rfl))
      refine AX.condF (h := ?_)
      refine AX.keepA [5, 8] (h := ?_)
      refine AX.skip ?_
      try simp only [thenS_normal, thenS_ret, thenS_exit, blockS_normal, blockS_ret, blockS_exit, backS_ret, backS_exit, if_true]
      refine AX.regWV [5, 8] (And.intro @lit_add True.intro) True.intro (hq := ?_)
      try simp only [thenS_normal, thenS_ret, thenS_exit, blockS_normal, blockS_ret, blockS_exit, backS_ret, backS_exit, if_true]
      refine ⟨els.length - (i + 1), _, id, by omega,
        leA
        , ⟨i + 1, by omega, rfl, rfl⟩⟩
    · refine AX.sregAV [5, 8, 50] (hq := ?_)
      refine AX.condF (h := ?_)
      refine AX.exit ?_
      try simp only [thenS_normal, thenS_ret, thenS_exit, blockS_normal, blockS_ret, blockS_exit, backS_ret, backS_exit, if_true]
      refine AX.sregCV [4] (And.intro caw True.intro) (hq := ?_)
      refine AX.ret (And.intro (Or.inl rfl) ?_)
      exact Done.one rfl rfl rfl rfl
  · rw [Bool.not_eq_true] at h
    rw [h] at cf
    refine AX.sregCV [2, 3, 13] (And.intro cf True.intro) (hq := ?_)
    refine AX.condT (h := ?_)
    refine AX.sregCV [4] (And.intro caw True.intro) (hq := ?_)
    refine AX.ret (And.intro (Or.inl rfl) ?_)
    exact Done.one rfl rfl rfl rfl

end Go.Proofs.Ytmhjcmochemndaa
