/- The law RatioTexts. -/
import Derived.Test.YtmhjcmochemndaaLawQ6
import Derived.Test.YtmhjcmochemndaaQ2C
set_option linter.unusedVariables false
set_option linter.unusedSimpArgs false
namespace Go.Proofs.Ytmhjcmochemndaa
open Go Go.Proofs.Ytmhjcmochemndaa.Lift
attribute [local irreducible] Lift.PCall Lift.HCall

theorem rpV_pair (s : ByteArray) : PairV (rpV s) := by
  unfold rpV
  split
  · exact PairV.q (by have := rpQ_len s; omega) _
  · exact PairV.z _

set_option maxRecDepth 20000 in
set_option maxHeartbeats 8000000 in
theorem ratioTexts_ok (s1 : Bool) (a1 b1 : List Nat) (s : ByteArray) (ha1 : Dg a1) (hb1 : Dg b1) (la1 : a1.length < 2 ^ 62) (lb1 : b1.length < 2 ^ 62) (hs : s.size < 2 ^ 62) :
    PCall Try.prog 7 [rR s1 a1 b1, .s s] (.b true) [] := by
  refine PCall.of_ax Try.call7 Try.func7 rfl (by simp [Try.ntmps7]) fun O w => ?_
  simp only [Try.ntmps7, Try.results7, argFr]
  have cf := lfew1 40 (by omega) s1 a1 b1 la1 lb1
  have caw := lawake_ok
  refine AX.sregAV [1, 2] (hq := ?_)
  refine AX.seq ?_
  by_cases h : okR 40 (s1, a1, b1) = true
  · rw [h] at cf
    by_cases hz : s.size ≤ 2000
    · rw [okR_iff] at h
      obtain ⟨h1, h2⟩ := h
      have qa := IsQ.raw (s := s1) ha1 hb1 h1 h2
      generalize rq s1 (val a1) (val b1) = A at *
      have c1 := qparse_ok s hs
      have c2 := pparse_ok s hs
      obtain ⟨t, a, b, e, e1, d1⟩ := rpV_pair s
      rw [e1] at c1 c2
      have c3 := qtext_ok qa (by omega) (by omega)
      have c4 := ptext_ok qa (by omega) (by omega)
      have ht : decide (rtxt A = rtxt A) = true := decide_eq_true rfl
      generalize rtxt A = T at *
      clear qa h1 h2 e1
      refine AX.sregCV [1, 2, 17] (And.intro cf True.intro) (hq := ?_)
      refine AX.condF (h := ?_)
      refine AX.keepA [1, 2] (h := ?_)
      refine AX.skip ?_
      try simp only [thenS_normal, thenS_ret, thenS_exit, blockS_normal, blockS_ret, blockS_exit, backS_ret, backS_exit, if_true]
      refine AX.sregCV [1, 2, 5, 6] (And.intro c1 True.intro) (hq := ?_)
      refine AX.sregCV [2, 5, 6, 7, 8] (And.intro c2 True.intro) (hq := ?_)
      apply AX.sdreg [4] (by kernel_rfl) (by simp only [pq]; rfl)
      · repeat (first
       | (apply RunD.op rfl; · rfl
          · (simp only [opsOf, valsOf, valOf, lkp, ofConst, ofCell, Array.toList, Option.toList, List.map_cons, List.map_nil, List.cons_append, List.nil_append, List.append_nil, Nat.reduceEqDiff, Nat.reducePow, Nat.reduceLT, Nat.reduceLeDiff, reduceIte, if_true, if_false, IntKind.min, IntKind.max, IntKind.bits, IntKind.signed, Int.reduceLE, Int.reduceNeg, Int.reducePow, Int.reduceSub, and_self, Bool.false_eq_true, Nat.reduceSub]; rfl)
          · first | exact effStr ht | (simp (disch := omega) only [go_sem, i64_of, u32_of, u64_of, Nat.reduceLT, Nat.reduceLeDiff, Nat.reduceEqDiff, Nat.reduceAdd, Nat.reduceSub, Nat.reduceMul, Nat.reducePow, Nat.reduceBEq, Int.reduceLE, Int.reduceLT, Int.reduceToNat, Int.reduceEq, Int.reduceNeg, reduceIte, reduceCtorEq]; rfl)
          · (simp (disch := omega) only [go_sem, i64_of, u32_of, u64_of, Nat.reduceLT, Nat.reduceLeDiff, Nat.reduceEqDiff, Nat.reduceAdd, Nat.reduceSub, Nat.reduceMul, Nat.reducePow, Nat.reduceBEq, Int.reduceLE, Int.reduceLT, Int.reduceToNat, Int.reduceEq, Int.reduceNeg, reduceIte, reduceCtorEq]; rfl)
          · (simp only [pb, Nat.reduceLT, Nat.reduceAdd, reduceIte]; rfl)
          · rfl)
       | (apply RunD.call rfl; · rfl
          · (simp only [opsOf, valsOf, valOf, lkp, ofConst, ofCell, Array.toList, Option.toList, List.map_cons, List.map_nil, List.cons_append, List.nil_append, List.append_nil, Nat.reduceEqDiff, Nat.reducePow, Nat.reduceLT, Nat.reduceLeDiff, reduceIte, if_true, if_false, IntKind.min, IntKind.max, IntKind.bits, IntKind.signed, Int.reduceLE, Int.reduceNeg, Int.reducePow, Int.reduceSub, and_self, Bool.false_eq_true, Nat.reduceSub]; rfl)
          · first | rfl | (simp only [List.cons_append, List.nil_append, V.hfL, V.hf, Bool.true_and]; assumption)
          · (first | (simp only [cnlL, cnl, List.append_nil, List.cons_append, List.nil_append]; first | exact c3 | exact c4 | exact d1 | exact caw) | (first | exact c3 | exact c4 | exact d1 | exact caw))
          · rfl
          · (simp only [pb, Nat.reduceLT, Nat.reduceAdd, reduceIte]; rfl)
          · rfl)
       | (apply RunD.skip; · rfl
          · (simp only [pb, Nat.reduceLT, Nat.reduceAdd, reduceIte]; rfl)
          · rfl))
        exact RunD.nil
      · repeat (first | exact Keep.nil | (apply Keep.take; · rfl) | (apply Keep.drop; · rfl))
      · kernel_rfl
      refine AX.ret (And.intro (Or.inl rfl) ?_)
      exact Done.one rfl rfl rfl rfl
    · refine AX.sregCV [1, 2, 17] (And.intro cf True.intro) (hq := ?_)
      refine AX.condT (h := ?_)
      refine AX.sregCV [4] (And.intro caw True.intro) (hq := ?_)
      refine AX.ret (And.intro (Or.inl rfl) ?_)
      exact Done.one rfl rfl rfl rfl
  · rw [Bool.not_eq_true] at h
    rw [h] at cf
    refine AX.sregCV [1, 2, 17] (And.intro cf True.intro) (hq := ?_)
    refine AX.condT (h := ?_)
    refine AX.sregCV [4] (And.intro caw True.intro) (hq := ?_)
    refine AX.ret (And.intro (Or.inl rfl) ?_)
    exact Done.one rfl rfl rfl rfl

end Go.Proofs.Ytmhjcmochemndaa
