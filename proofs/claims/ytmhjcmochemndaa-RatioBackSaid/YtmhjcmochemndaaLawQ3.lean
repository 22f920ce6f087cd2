/- The law RatioBack. -/
import Derived.Test.YtmhjcmochemndaaGT
import Derived.Test.YtmhjcmochemndaaGS
set_option linter.unusedVariables false
set_option linter.unusedSimpArgs false
namespace Go.Proofs.Ytmhjcmochemndaa
open Go Go.Proofs.Ytmhjcmochemndaa.Lift
attribute [local irreducible] Lift.PCall Lift.HCall

theorem rpV_ok {s : ByteArray} (h : rpE s = 0) : rpV s = .tup [rV (rpQ s), .i .i64 0] := by
  unfold rpV
  rw [if_pos h]
theorem rpV_no {s : ByteArray} (h : rpE s ≠ 0) : rpV s = .tup [zR, .i .i64 (rpE s)] := if_neg h

set_option maxRecDepth 20000 in
set_option maxHeartbeats 8000000 in
theorem ratioBack_ok (s1 : Bool) (a1 b1 : List Nat) (s : ByteArray) (ha1 : Dg a1) (hb1 : Dg b1) (la1 : a1.length < 2 ^ 62) (lb1 : b1.length < 2 ^ 62) (hs : s.size < 2 ^ 62) :
    PCall Try.prog 10 [rR s1 a1 b1, .s s] (.b true) [] := by
  refine PCall.of_ax Try.call10 Try.func10 rfl (by simp [Try.ntmps10]) fun O w => ?_
  simp only [Try.ntmps10, Try.results10, argFr]
  have cf := lfew1 40 (by omega) s1 a1 b1 la1 lb1
  have caw := lawake_ok
  refine AX.sregAV [2, 1] (hq := ?_)
  refine AX.seq ?_
  by_cases h : okR 40 (s1, a1, b1) = true
  · rw [h] at cf
    by_cases hz : s.size ≤ 1000
    · rw [okR_iff] at h
      obtain ⟨h1, h2⟩ := h
      have qa := IsQ.raw (s := s1) ha1 hb1 h1 h2
      generalize rq s1 (val a1) (val b1) = A at *
      have lA := qa.rL (by omega)
      have c1 := qtext_ok qa (by omega) (by omega)
      have c2 := qparse_ok (rtxt A) (by
        have := decB_len A.num.natAbs
        have := decB_len A.den
        have g1 : (digits A.num.natAbs).length ≤ rL A := Nat.le_max_left _ _
        have g2 : (digits A.den).length ≤ rL A := Nat.le_max_right _ _
        show (strN (rtxL A)).size < _
        rw [size_strN]
        unfold rtxL
        rw [List.length_append, List.length_append]
        split <;> split <;> simp <;> omega)
      rw [rpV_rtxt (by omega)] at c2
      have c3 := qsame_ok (L := 40) (IsQ.of (q := A) lA) qa (by omega)
      rw [decide_eq_true rfl] at c3
      have c4 := qright_ok A (by omega)
      have c5 := qparse_ok s hs
      have c6 := qtext_ok (IsQ.of (rpQ_len s)) (by omega) (by omega)
      have c7 := qright_ok (rpQ s) (by have := rpQ_len s; omega)
      have c8 : PCall Try.prog 21 [zR, zR] (.b true) [] := lsame_ok false false [] [] [] [] (by simp) (by simp) (by simp) (by simp)
      have ht := rpE_text (s := s)
      generalize rtxt A = tA at *
      clear lA qa h1 h2
      by_cases hE : rpE s = 0
      · rw [rpV_ok hE] at c5
        have hq := decide_eq_true (ht hE)
        generalize rtxt (rpQ s) = tS at *
        generalize rpQ s = S at *
        refine AX.sregCV [1, 2, 17] (And.intro cf True.intro) (hq := ?_)
        refine AX.condF (h := ?_)
        refine AX.keepA [1, 2] (h := ?_)
        refine AX.skip ?_
        try simp only [thenS_normal, thenS_ret, thenS_exit, blockS_normal, blockS_ret, blockS_exit, backS_ret, backS_exit, if_true]
        refine AX.sregCV [1, 2, 5, 6] (And.intro c1 (And.intro c2 True.intro)) (hq := ?_)
        refine AX.seq ?_
        refine AX.sregCV [1, 2, 5, 37] (And.intro c3 (And.intro c4 True.intro)) (hq := ?_)
        refine AX.condF (h := ?_)
        refine AX.keepA [1, 2] (h := ?_)
        refine AX.skip ?_
        try simp only [thenS_normal, thenS_ret, thenS_exit, blockS_normal, blockS_ret, blockS_exit, backS_ret, backS_exit, if_true]
        refine AX.sregCV [1, 7, 8] (And.intro c5 True.intro) (hq := ?_)
        apply AX.sreg [4] (by simp only [pq]; rfl)
        · repeat (first
         | (apply RunO.op rfl; · rfl
            · (simp only [opsOf, valsOf, valOf, lkp, ofConst, ofCell, Array.toList, Option.toList, List.map_cons, List.map_nil, List.cons_append, List.nil_append, List.append_nil, Nat.reduceEqDiff, Nat.reducePow, Nat.reduceLT, Nat.reduceLeDiff, reduceIte, if_true, if_false, IntKind.min, IntKind.max, IntKind.bits, IntKind.signed, Int.reduceLE, Int.reduceNeg, Int.reducePow, Int.reduceSub, and_self, Bool.false_eq_true, Nat.reduceSub]; rfl)
            · first | exact effStr hq | (simp (disch := omega) only [go_sem, i64_of, u32_of, u64_of, Nat.reduceLT, Nat.reduceLeDiff, Nat.reduceEqDiff, Nat.reduceAdd, Nat.reduceSub, Nat.reduceMul, Nat.reducePow, Nat.reduceBEq, Int.reduceLE, Int.reduceLT, Int.reduceToNat, Int.reduceEq, Int.reduceNeg, reduceIte, reduceCtorEq]; rfl)
            · (simp (disch := omega) only [go_sem, i64_of, u32_of, u64_of, Nat.reduceLT, Nat.reduceLeDiff, Nat.reduceEqDiff, Nat.reduceAdd, Nat.reduceSub, Nat.reduceMul, Nat.reducePow, Nat.reduceBEq, Int.reduceLE, Int.reduceLT, Int.reduceToNat, Int.reduceEq, Int.reduceNeg, reduceIte, reduceCtorEq]; rfl)
            · (simp only [pb, Nat.reduceLT, Nat.reduceAdd, reduceIte]; rfl))
         | (apply RunO.call rfl; · rfl
            · (simp only [opsOf, valsOf, valOf, lkp, ofConst, ofCell, Array.toList, Option.toList, List.map_cons, List.map_nil, List.cons_append, List.nil_append, List.append_nil, Nat.reduceEqDiff, Nat.reducePow, Nat.reduceLT, Nat.reduceLeDiff, reduceIte, if_true, if_false, IntKind.min, IntKind.max, IntKind.bits, IntKind.signed, Int.reduceLE, Int.reduceNeg, Int.reducePow, Int.reduceSub, and_self, Bool.false_eq_true, Nat.reduceSub]; rfl)
            · (simp (disch := omega) only [go_sem, i64_of, u32_of, u64_of, Nat.reduceLT, Nat.reduceLeDiff, Nat.reduceEqDiff, Nat.reduceAdd, Nat.reduceSub, Nat.reduceMul, Nat.reducePow, Nat.reduceBEq, Int.reduceLE, Int.reduceLT, Int.reduceToNat, Int.reduceEq, Int.reduceNeg, reduceIte, reduceCtorEq]; rfl)
            · rfl
            · (first | exact c6 | exact c7 | exact caw)
            · (simp (disch := omega) only [go_sem, i64_of, u32_of, u64_of, Nat.reduceLT, Nat.reduceLeDiff, Nat.reduceEqDiff, Nat.reduceAdd, Nat.reduceSub, Nat.reduceMul, Nat.reducePow, Nat.reduceBEq, Int.reduceLE, Int.reduceLT, Int.reduceToNat, Int.reduceEq, Int.reduceNeg, reduceIte, reduceCtorEq]; rfl)
            · (simp only [pb, Nat.reduceLT, Nat.reduceAdd, reduceIte]; rfl))
         | (apply RunO.skip; · rfl
            · (simp only [pb, Nat.reduceLT, Nat.reduceAdd, reduceIte]; rfl)))
          exact RunO.nil
        · repeat (first | exact Keep.nil | (apply Keep.take; · rfl) | (apply Keep.drop; · rfl))
        refine AX.ret (And.intro (Or.inl rfl) ?_)
        exact Done.one rfl rfl rfl rfl
      · rw [rpV_no hE] at c5
        generalize rpE s = E at *
        refine AX.sregCV [1, 2, 17] (And.intro cf True.intro) (hq := ?_)
        refine AX.condF (h := ?_)
        refine AX.keepA [1, 2] (h := ?_)
        refine AX.skip ?_
        try simp only [thenS_normal, thenS_ret, thenS_exit, blockS_normal, blockS_ret, blockS_exit, backS_ret, backS_exit, if_true]
        refine AX.sregCV [1, 2, 5, 6] (And.intro c1 (And.intro c2 True.intro)) (hq := ?_)
        refine AX.seq ?_
        refine AX.sregCV [1, 2, 5, 37] (And.intro c3 (And.intro c4 True.intro)) (hq := ?_)
        refine AX.condF (h := ?_)
        refine AX.keepA [1, 2] (h := ?_)
        refine AX.skip ?_
        try simp only [thenS_normal, thenS_ret, thenS_exit, blockS_normal, blockS_ret, blockS_exit, backS_ret, backS_exit, if_true]
        refine AX.sregCV [1, 7, 8] (And.intro c5 True.intro) (hq := ?_)
        refine AX.sregCV [4] (And.intro c8 (And.intro caw True.intro)) (hq := ?_)
        refine AX.ret (And.intro (Or.inl rfl) ?_)
        exact Done.one rfl rfl rfl rfl
    · refine AX.sregCV [1, 2, 17] (And.intro cf True.intro) (hq := ?_)
      refine AX.condT (h := ?_)
      refine AX.sregCV [4] (And.intro caw True.intro) (hq := ?_)
      refine AX.ret (And.intro (Or.inl rfl) ?_)
      exact Done.one rfl rfl rfl rfl
  · rw [Bool.not_eq_true] at h
    rw [h] at cf
    refine AX.sregCV [1, 2, 17] (And.intro cf True.intro) (hq := ?_)
    refine AX.condT (h := ?_)
    refine AX.sregCV [4] (And.intro caw True.intro) (hq := ?_)
    refine AX.ret (And.intro (Or.inl rfl) ?_)
    exact Done.one rfl rfl rfl rfl

end Go.Proofs.Ytmhjcmochemndaa
