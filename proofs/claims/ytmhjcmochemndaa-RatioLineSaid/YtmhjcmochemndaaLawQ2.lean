/- The laws RatioField and RatioLine. -/
import Derived.Test.YtmhjcmochemndaaGT
set_option linter.unusedVariables false
set_option linter.unusedSimpArgs false
namespace Go.Proofs.Ytmhjcmochemndaa
open Go Go.Proofs.Ytmhjcmochemndaa.Lift
attribute [local irreducible] Lift.PCall Lift.HCall

theorem sgnR_z {q : Rat} (h : q = 0) : sgnR q = 0 := sgnR_eq_zero.2 h

set_option maxRecDepth 20000 in
set_option maxHeartbeats 8000000 in
theorem ratioField_ok (s1 s2 s3 : Bool) (a1 b1 a2 b2 a3 b3 : List Nat) (ha1 : Dg a1) (hb1 : Dg b1) (ha2 : Dg a2) (hb2 : Dg b2) (ha3 : Dg a3) (hb3 : Dg b3) (la1 : a1.length < 2 ^ 62) (lb1 : b1.length < 2 ^ 62) (la2 : a2.length < 2 ^ 62) (lb2 : b2.length < 2 ^ 62) (la3 : a3.length < 2 ^ 62) (lb3 : b3.length < 2 ^ 62) :
    PCall Try.prog 8 [rR s1 a1 b1, rR s2 a2 b2, rR s3 a3 b3] (.b true) [] := by
  refine PCall.of_ax Try.call8 Try.func8 rfl (by simp [Try.ntmps8]) fun O w => ?_
  simp only [Try.ntmps8, Try.results8, argFr]
  have cf := lfew3 12 (by omega) s1 s2 s3 a1 b1 a2 b2 a3 b3 la1 lb1 la2 lb2 la3 lb3
  have caw := lawake_ok
  refine AX.sregAV [3, 4, 5] (hq := ?_)
  refine AX.seq ?_
  by_cases h : (okR 12 (s1, a1, b1) && (okR 12 (s2, a2, b2) && okR 12 (s3, a3, b3))) = true
  · rw [h] at cf
    simp only [Bool.and_eq_true, okR_iff] at h
    obtain ⟨⟨h1, h2⟩, ⟨h3, h4⟩, h5, h6⟩ := h
    have qa := IsQ.raw (s := s1) ha1 hb1 h1 h2
    have qb := IsQ.raw (s := s2) ha2 hb2 h3 h4
    have qc := IsQ.raw (s := s3) ha3 hb3 h5 h6
    generalize rq s1 (val a1) (val b1) = A at *
    generalize rq s2 (val a2) (val b2) = B at *
    generalize rq s3 (val a3) (val b3) = C at *
    have lA := qa.rL (by omega)
    have lB := qb.rL (by omega)
    have lC := qc.rL (by omega)
    have lAB := rL_add A B lA lB
    have lBC := rL_add B C lB lC
    have pAB := rL_mul A B lA lB (by omega)
    have pBC := rL_mul B C lB lC (by omega)
    have pAC := rL_mul A C lA lC (by omega)
    have lABC := rL_add _ _ lAB lC
    have pABC := rL_mul _ _ pAB lC (by omega)
    have pSC := rL_mul _ _ lAB lC (by omega)
    have dAB := rL_sub A B lA lB
    have vAB := rL_div A B lA lB (by omega)
    have c1 := qadd_ok qa qb (by omega)
    have c2 := qmul_ok qa qb (by omega)
    have c3 := qadd_ok qb qa (by omega)
    rw [Rat.add_comm B A] at c3
    have c4 := qmul_ok qb qa (by omega)
    rw [Rat.mul_comm B A] at c4
    have c5 := qadd_ok (L := 80) (IsQ.of (q := A + B) (by omega)) (qc.mono (by omega)) (by omega)
    have c6 := qadd_ok qb qc (by omega)
    have c7 := qadd_ok (L := 80) (qa.mono (by omega)) (IsQ.of (q := B + C) (by omega)) (by omega)
    rw [← Rat.add_assoc] at c7
    have c8 := qmul_ok (L := 80) (IsQ.of (q := A * B) (by omega)) (qc.mono (by omega)) (by omega)
    have c9 := qmul_ok qb qc (by omega)
    have c10 := qmul_ok (L := 80) (qa.mono (by omega)) (IsQ.of (q := B * C) (by omega)) (by omega)
    rw [← Rat.mul_assoc] at c10
    have c11 := qmul_ok (L := 80) (IsQ.of (q := A + B) (by omega)) (qc.mono (by omega)) (by omega)
    have c12 := qmul_ok qa qc (by omega)
    have c13 := qadd_ok (L := 80) (IsQ.of (q := A * C) (by omega)) (IsQ.of (q := B * C) (by omega)) (by omega)
    rw [← Rat.add_mul] at c13
    have c14 := qsub_ok qa qb (by omega) (by omega)
    have c15 := qadd_ok (L := 80) (IsQ.of (q := A - B) (by omega)) (qb.mono (by omega)) (by omega)
    have e15 : A - B + B = A := by grind
    rw [e15] at c15
    have c16 := qsame_ok (L := 80) (IsQ.of (q := A) (by omega)) (qa.mono (by omega)) (by omega)
    rw [decide_eq_true rfl] at c16
    have c17 := qneg_ok qa (by omega)
    have c18 := qadd_ok (L := 80) (qa.mono (by omega)) (IsQ.of (q := -A) (by rw [rL_neg]; omega)) (by omega)
    have e18 : A + -A = 0 := by grind
    rw [e18] at c18
    have c19 : PCall Try.prog 30 [rV 0] (.i .i64 0) [] := by
      have := sign_ok (IsQ.self 0) (by rw [← e18]; have := rL_add A (-A) lA (by rw [rL_neg]; exact lA); omega)
      rwa [sgnR_zero] at this
    have c20 := qdiv_ok qa qb (by omega)
    have c21 := sign_ok qb (by omega)
    have c22 := qmul_ok (L := 80) (IsQ.of (q := A / B) (by omega)) (qb.mono (by omega)) (by omega)
    have e22 : B ≠ 0 → A / B * B = A := fun hB => Rat.div_mul_cancel hB
    have s1 := lsame_q (A + B) (by omega)
    have s2 := lsame_q (A * B) (by omega)
    have s3 := lsame_q (A + B + C) (by omega)
    have s4 := lsame_q (A * B * C) (by omega)
    have s5 := lsame_q ((A + B) * C) (by omega)
    unfold qdivV at c20
    have hBz : B = 0 ↔ sgnR B = 0 := sgnR_eq_zero.symm
    clear lA lB lC lAB lBC pAB pBC pAC lABC pABC pSC dAB vAB e15 e18 qa qb qc
    generalize (A + B) * C = x1 at *
    generalize A * B * C = x2 at *
    generalize A + B + C = x3 at *
    generalize A * C = x4 at *
    generalize B * C = x5 at *
    generalize B + C = x6 at *
    generalize A * B = x7 at *
    generalize A + B = x8 at *
    generalize A - B = x9 at *
    generalize -A = x10 at *
    generalize (0 : Rat) = z at *
    generalize sgnR B = Z at *
    refine AX.sregCV [3, 4, 5, 16] (And.intro cf True.intro) (hq := ?_)
    refine AX.condF (h := ?_)
    refine AX.keepA [3, 4, 5] (h := ?_)
    refine AX.skip ?_
    try simp only [thenS_normal, thenS_ret, thenS_exit, blockS_normal, blockS_ret, blockS_exit, backS_ret, backS_exit, if_true]
    refine AX.sdregCV [3, 4, 5, 7, 8] (And.intro c1 (And.intro c2 True.intro)) (hq := ?_)
    refine AX.seq ?_
    refine AX.sdregCV [3, 4, 5, 7, 8, 61] (And.intro c3 (And.intro s1 (And.intro c4 (And.intro s2 (And.intro c5 (And.intro c6 (And.intro c7 (And.intro s3 (And.intro c8 (And.intro c9 (And.intro c10 (And.intro s4 True.intro)))))))))))) (hq := ?_)
    refine AX.condF (h := ?_)
    refine AX.keepA [3, 4, 5, 7, 8] (h := ?_)
    refine AX.skip ?_
    try simp only [thenS_normal, thenS_ret, thenS_exit, blockS_normal, blockS_ret, blockS_exit, backS_ret, backS_exit, if_true]
    refine AX.seq ?_
    refine AX.sdregCV [3, 4, 5, 7, 8, 91] (And.intro c11 (And.intro c12 (And.intro c9 (And.intro c13 (And.intro s5 (And.intro c14 (And.intro c15 (And.intro c16 (And.intro c17 (And.intro c18 (And.intro c19 True.intro))))))))))) (hq := ?_)
    refine AX.condF (h := ?_)
    refine AX.keepA [3, 4, 5, 7, 8] (h := ?_)
    refine AX.skip ?_
    try simp only [thenS_normal, thenS_ret, thenS_exit, blockS_normal, blockS_ret, blockS_exit, backS_ret, backS_exit, if_true]
    by_cases hB : B = z
    · rw [if_pos hB] at c20
      have hZ := hBz.1 hB
      refine AX.sregCV [3, 4, 9, 10] (And.intro c20 True.intro) (hq := ?_)
      refine AX.seq ?_
      refine AX.sregAV [3, 4, 9, 10, 99] (hq := ?_)
      refine AX.condT (h := ?_)
      refine AX.sregWV [6] (And.intro @hZ True.intro) (And.intro c21 (And.intro caw True.intro)) (hq := ?_)
      refine AX.ret (And.intro (Or.inl rfl) ?_)
      exact Done.one rfl rfl rfl rfl
    · rw [if_neg hB] at c20
      have e := e22 hB
      generalize A / B = y at *
      rw [e] at c22
      refine AX.sregCV [3, 4, 9, 10] (And.intro c20 True.intro) (hq := ?_)
      refine AX.seq ?_
      refine AX.sregAV [3, 4, 9, 10, 99] (hq := ?_)
      refine AX.condF (h := ?_)
      refine AX.keepA [3, 4, 9] (h := ?_)
      refine AX.skip ?_
      try simp only [thenS_normal, thenS_ret, thenS_exit, blockS_normal, blockS_ret, blockS_exit, backS_ret, backS_exit, if_true]
      refine AX.sdregCV [6] (And.intro c22 (And.intro c16 (And.intro caw True.intro))) (hq := ?_)
      refine AX.ret (And.intro (Or.inl rfl) ?_)
      exact Done.one rfl rfl rfl rfl
  · rw [Bool.not_eq_true] at h
    rw [h] at cf
    refine AX.sregCV [3, 4, 5, 16] (And.intro cf True.intro) (hq := ?_)
    refine AX.condT (h := ?_)
    refine AX.sregCV [6] (And.intro caw True.intro) (hq := ?_)
    refine AX.ret (And.intro (Or.inl rfl) ?_)
    exact Done.one rfl rfl rfl rfl

theorem tri (A B : Rat) : A < B ∨ A = B ∨ B < A := by grind
theorem cmpR_swap (A B : Rat) : cmpR B A = -cmpR A B := by
  rcases tri A B with h | h | h
  · rw [cmpR_lt h, cmpR_gt h]; rfl
  · subst h; rw [cmpR_self]; rfl
  · rw [cmpR_lt h, cmpR_gt h]
theorem cmpR_add (A B C : Rat) : cmpR (A + C) (B + C) = cmpR A B := by
  rcases tri A B with h | h | h
  · rw [cmpR_lt h, cmpR_lt (by grind)]
  · subst h; rw [cmpR_self, cmpR_self]
  · rw [cmpR_gt h, cmpR_gt (by grind)]
theorem sgnR_sub (A B : Rat) : sgnR (A - B) = cmpR A B := by
  unfold sgnR
  rcases tri A B with h | h | h
  · rw [cmpR_lt h, if_pos (by grind)]
  · subst h; rw [cmpR_self, if_neg (by grind), if_pos (by grind)]
  · rw [cmpR_gt h, if_neg (by grind), if_neg (by grind)]
theorem cmpR_mul (A B C : Rat) : cmpR (A * C) (B * C) = cmpR A B * sgnR C := by
  have key : ∀ {A B : Rat}, A < B → cmpR (A * C) (B * C) = -sgnR C ∧ cmpR (B * C) (A * C) = sgnR C := by
    intro A B h
    rcases tri C 0 with hc | hc | hc
    · have h1 : B * C < A * C := by
        have := Rat.mul_pos (a := B - A) (b := -C) (by grind) (by grind)
        grind
      have h2 : sgnR C = -1 := if_pos hc
      rw [cmpR_gt h1, cmpR_lt h1, h2]
      exact ⟨rfl, rfl⟩
    · subst hc
      rw [Rat.mul_zero, Rat.mul_zero, cmpR_self, sgnR_zero]
      exact ⟨rfl, rfl⟩
    · have h1 : A * C < B * C := by
        have := Rat.mul_pos (a := B - A) (b := C) (by grind) hc
        grind
      have h2 : sgnR C = 1 := by
        unfold sgnR
        rw [if_neg (by grind), if_neg (by grind)]
      rw [cmpR_gt h1, cmpR_lt h1, h2]
      exact ⟨rfl, rfl⟩
  rcases tri A B with h | h | h
  · rw [(key h).1, cmpR_lt h]; omega
  · subst h; rw [cmpR_self, cmpR_self]; omega
  · rw [(key h).2, cmpR_gt h]; omega
theorem half_eq : rq false 1 2 = 1 / 2 := by
  have h1 : rq false 1 2 + rq false 1 2 = rq false 4 4 := add_same _ (by omega) (by omega)
  have h2 : rq false 4 4 = rq false 1 1 := rq_eq (by omega) (by omega) rfl
  have h3 : rq false 1 1 = 1 := rfl
  rw [h2, h3] at h1
  grind
theorem cmpR_mid (A B : Rat) : cmpR A ((A + B) * rq false 1 2) = cmpR A B ∧ cmpR ((A + B) * rq false 1 2) B = cmpR A B := by
  rw [half_eq]
  rcases tri A B with h | h | h
  · rw [cmpR_lt h, cmpR_lt (by grind), cmpR_lt (by grind)]
    exact ⟨rfl, rfl⟩
  · subst h
    have e : (A + A) * (1 / 2) = A := by grind
    rw [e, cmpR_self]
    exact ⟨rfl, rfl⟩
  · rw [cmpR_gt h, cmpR_gt (by grind), cmpR_gt (by grind)]
    exact ⟨rfl, rfl⟩
theorem cmpR_bd (A B : Rat) : -1 ≤ cmpR A B ∧ cmpR A B ≤ 1 := by
  unfold cmpR
  split
  · omega
  · split <;> omega
theorem cmpR_trans (A B C : Rat) (h1 : ¬ 0 < cmpR A B) (h2 : ¬ 0 < cmpR B C) : cmpR A C ≤ 0 := by
  have e1 : ∀ {X Y : Rat}, ¬ 0 < cmpR X Y → X ≤ Y := by
    intro X Y h
    rcases tri X Y with g | g | g
    · grind
    · grind
    · rw [cmpR_gt g] at h; omega
  have h3 := e1 h1
  have h4 := e1 h2
  rcases tri A C with g | g | g
  · rw [cmpR_lt g]; omega
  · subst g; rw [cmpR_self]; omega
  · grind

set_option maxRecDepth 20000 in
set_option maxHeartbeats 8000000 in
theorem ratioLine_ok (s1 s2 s3 : Bool) (a1 b1 a2 b2 a3 b3 : List Nat) (ha1 : Dg a1) (hb1 : Dg b1) (ha2 : Dg a2) (hb2 : Dg b2) (ha3 : Dg a3) (hb3 : Dg b3) (la1 : a1.length < 2 ^ 62) (lb1 : b1.length < 2 ^ 62) (la2 : a2.length < 2 ^ 62) (lb2 : b2.length < 2 ^ 62) (la3 : a3.length < 2 ^ 62) (lb3 : b3.length < 2 ^ 62) :
    PCall Try.prog 9 [rR s1 a1 b1, rR s2 a2 b2, rR s3 a3 b3] (.b true) [] := by
  refine PCall.of_ax Try.call9 Try.func9 rfl (by simp [Try.ntmps9]) fun O w => ?_
  simp only [Try.ntmps9, Try.results9, argFr]
  have cf := lfew3 12 (by omega) s1 s2 s3 a1 b1 a2 b2 a3 b3 la1 lb1 la2 lb2 la3 lb3
  have caw := lawake_ok
  refine AX.sregAV [3, 4, 5] (hq := ?_)
  refine AX.seq ?_
  by_cases h : (okR 12 (s1, a1, b1) && (okR 12 (s2, a2, b2) && okR 12 (s3, a3, b3))) = true
  · rw [h] at cf
    simp only [Bool.and_eq_true, okR_iff] at h
    obtain ⟨⟨h1, h2⟩, ⟨h3, h4⟩, h5, h6⟩ := h
    have qa := IsQ.raw (s := s1) ha1 hb1 h1 h2
    have qb := IsQ.raw (s := s2) ha2 hb2 h3 h4
    have qc := IsQ.raw (s := s3) ha3 hb3 h5 h6
    generalize rq s1 (val a1) (val b1) = A at *
    generalize rq s2 (val a2) (val b2) = B at *
    generalize rq s3 (val a3) (val b3) = C at *
    have lA := qa.rL (by omega)
    have lB := qb.rL (by omega)
    have lC := qc.rL (by omega)
    have lH : rL (rq false 1 2) ≤ 2 := rL_rq (lenS (by omega)) (lenS (by omega)) (by omega)
    have lAB := rL_add A B lA lB
    have lAC := rL_add A C lA lC
    have lBC := rL_add B C lB lC
    have pAC := rL_mul A C lA lC (by omega)
    have pBC := rL_mul B C lB lC (by omega)
    have dAB := rL_sub A B lA lB
    have lM := rL_mul _ _ lAB lH (by omega)
    have c1 := qcmp_ok qa qb (by omega)
    have c2 := qcmp_ok qb qa (by omega)
    rw [cmpR_swap] at c2
    have c3 := qadd_ok qa qc (by omega)
    have c4 := qadd_ok qb qc (by omega)
    have c5 := qcmp_ok (L := 80) (IsQ.of (q := A + C) (by omega)) (IsQ.of (q := B + C) (by omega)) (by omega)
    rw [cmpR_add] at c5
    have c6 := qsub_ok qa qb (by omega) (by omega)
    have c7 := sign_ok (L := 80) (IsQ.of (q := A - B) (by omega)) (by omega)
    rw [sgnR_sub] at c7
    have c8 := sign_ok qc (by omega)
    have c9 := qmul_ok qa qc (by omega)
    have c10 := qmul_ok qb qc (by omega)
    have c11 := qcmp_ok (L := 80) (IsQ.of (q := A * C) (by omega)) (IsQ.of (q := B * C) (by omega)) (by omega)
    rw [cmpR_mul] at c11
    have c12 := qadd_ok qa qb (by omega)
    have c13 : PCall Try.prog 50 [.i .i64 1, .i .i64 2] (rV (rq false 1 2)) [] := lmade_ok 1 2 (by omega) (by omega) (by decide)
    have c14 := qmul_ok (L := 80) (IsQ.of (q := A + B) (by omega)) (IsQ.of (q := rq false 1 2) (by omega)) (by omega)
    have c15 := qcmp_ok (L := 80) (qa.mono (by omega)) (IsQ.of (q := (A + B) * rq false 1 2) (by omega)) (by omega)
    rw [(cmpR_mid A B).1] at c15
    have c16 := qcmp_ok (L := 80) (IsQ.of (q := (A + B) * rq false 1 2) (by omega)) (qb.mono (by omega)) (by omega)
    rw [(cmpR_mid A B).2] at c16
    have c17 := qcmp_ok qb qc (by omega)
    have c18 := qcmp_ok qa qc (by omega)
    have bX := cmpR_bd A B
    have bZ := sgnR_bound C
    have bXZ := mul_bound1 bX bZ
    have tr := cmpR_trans A B C
    clear lA lB lC lH lAB lAC lBC pAC pBC dAB lM qa qb qc
    generalize (A + B) * rq false 1 2 = x1 at *
    generalize rq false 1 2 = x2 at *
    generalize A + B = x3 at *
    generalize A + C = x4 at *
    generalize B + C = x5 at *
    generalize A * C = x6 at *
    generalize B * C = x7 at *
    generalize A - B = x8 at *
    generalize cmpR A B = X at *
    generalize cmpR B C = Y1 at *
    generalize cmpR A C = Y2 at *
    generalize sgnR C = Z at *
    refine AX.sregCV [3, 4, 5, 15] (And.intro cf True.intro) (hq := ?_)
    refine AX.condF (h := ?_)
    refine AX.keepA [3, 4, 5] (h := ?_)
    refine AX.skip ?_
    try simp only [thenS_normal, thenS_ret, thenS_exit, blockS_normal, blockS_ret, blockS_exit, backS_ret, backS_exit, if_true]
    refine AX.sregCV [3, 4, 5, 7] (And.intro c1 True.intro) (hq := ?_)
    refine AX.seq ?_
    apply AX.sdreg [3, 4, 5, 7, 44] (by kernel_rfl) (by simp only [pq]; rfl)
    · repeat (first
     | (apply RunD.op rfl; · rfl
        · (simp only [opsOf, valsOf, valOf, lkp, ofConst, ofCell, Array.toList, Option.toList, List.map_cons, List.map_nil, List.cons_append, List.nil_append, List.append_nil, Nat.reduceEqDiff, Nat.reducePow, Nat.reduceLT, Nat.reduceLeDiff, reduceIte, if_true, if_false, IntKind.min, IntKind.max, IntKind.bits, IntKind.signed, Int.reduceLE, Int.reduceNeg, Int.reducePow, Int.reduceSub, and_self, Bool.false_eq_true, Nat.reduceSub]; rfl)
        iterate 2 (· (simp (disch := omega) only [go_sem, i64_of, u32_of, u64_of, Nat.reduceLT, Nat.reduceLeDiff, Nat.reduceEqDiff, Nat.reduceAdd, Nat.reduceSub, Nat.reduceMul, Nat.reducePow, Nat.reduceBEq, Int.reduceLE, Int.reduceLT, Int.reduceToNat, Int.reduceEq, Int.reduceNeg, reduceIte, reduceCtorEq, ne_eq, not_true_eq_false]; rfl))
        · (simp only [pb, Nat.reduceLT, Nat.reduceAdd, reduceIte]; rfl)
        · rfl)
     | (apply RunD.call rfl; · rfl
        · (simp only [opsOf, valsOf, valOf, lkp, ofConst, ofCell, Array.toList, Option.toList, List.map_cons, List.map_nil, List.cons_append, List.nil_append, List.append_nil, Nat.reduceEqDiff, Nat.reducePow, Nat.reduceLT, Nat.reduceLeDiff, reduceIte, if_true, if_false, IntKind.min, IntKind.max, IntKind.bits, IntKind.signed, Int.reduceLE, Int.reduceNeg, Int.reducePow, Int.reduceSub, and_self, Bool.false_eq_true, Nat.reduceSub]; rfl)
        · rfl
        · (first | (simp only [cnlL, cnl, List.append_nil, List.cons_append, List.nil_append]; first | exact c2 | exact c3 | exact c4 | exact c5 | exact c6 | exact c7) | (first | exact c2 | exact c3 | exact c4 | exact c5 | exact c6 | exact c7))
        · rfl
        · (simp only [pb, Nat.reduceLT, Nat.reduceAdd, reduceIte]; rfl)
        · rfl)
     | (apply RunD.skip; · rfl
        · (simp only [pb, Nat.reduceLT, Nat.reduceAdd, reduceIte]; rfl)
        · rfl))
      exact RunD.nil
    · repeat (first | exact Keep.nil | (apply Keep.take; · rfl) | (apply Keep.drop; · rfl))
    · kernel_rfl
    refine AX.condF (h := ?_)
    refine AX.keepA [3, 4, 5, 7] (h := ?_)
    refine AX.skip ?_
    try simp only [thenS_normal, thenS_ret, thenS_exit, blockS_normal, blockS_ret, blockS_exit, backS_ret, backS_exit, if_true]
    refine AX.seq ?_
    refine AX.sregCV [3, 4, 5, 7, 8] (And.intro c8 True.intro) (hq := ?_)
    apply AX.sdreg [3, 4, 5, 7, 57] (by kernel_rfl) (by simp only [pq]; rfl)
    · repeat (first
     | (apply RunD.op rfl; · rfl
        · (simp only [opsOf, valsOf, valOf, lkp, ofConst, ofCell, Array.toList, Option.toList, List.map_cons, List.map_nil, List.cons_append, List.nil_append, List.append_nil, Nat.reduceEqDiff, Nat.reducePow, Nat.reduceLT, Nat.reduceLeDiff, reduceIte, if_true, if_false, IntKind.min, IntKind.max, IntKind.bits, IntKind.signed, Int.reduceLE, Int.reduceNeg, Int.reducePow, Int.reduceSub, and_self, Bool.false_eq_true, Nat.reduceSub]; rfl)
        iterate 2 (· (simp (disch := omega) only [go_sem, i64_of, u32_of, u64_of, Nat.reduceLT, Nat.reduceLeDiff, Nat.reduceEqDiff, Nat.reduceAdd, Nat.reduceSub, Nat.reduceMul, Nat.reducePow, Nat.reduceBEq, Int.reduceLE, Int.reduceLT, Int.reduceToNat, Int.reduceEq, Int.reduceNeg, reduceIte, reduceCtorEq, ne_eq, not_true_eq_false]; rfl))
        · (simp only [pb, Nat.reduceLT, Nat.reduceAdd, reduceIte]; rfl)
        · rfl)
     | (apply RunD.call rfl; · rfl
        · (simp only [opsOf, valsOf, valOf, lkp, ofConst, ofCell, Array.toList, Option.toList, List.map_cons, List.map_nil, List.cons_append, List.nil_append, List.append_nil, Nat.reduceEqDiff, Nat.reducePow, Nat.reduceLT, Nat.reduceLeDiff, reduceIte, if_true, if_false, IntKind.min, IntKind.max, IntKind.bits, IntKind.signed, Int.reduceLE, Int.reduceNeg, Int.reducePow, Int.reduceSub, and_self, Bool.false_eq_true, Nat.reduceSub]; rfl)
        · rfl
        · (first | (simp only [cnlL, cnl, List.append_nil, List.cons_append, List.nil_append]; first | exact c9 | exact c10 | exact c11) | (first | exact c9 | exact c10 | exact c11))
        · rfl
        · (simp only [pb, Nat.reduceLT, Nat.reduceAdd, reduceIte]; rfl)
        · rfl)
     | (apply RunD.skip; · rfl
        · (simp only [pb, Nat.reduceLT, Nat.reduceAdd, reduceIte]; rfl)
        · rfl))
      exact RunD.nil
    · repeat (first | exact Keep.nil | (apply Keep.take; · rfl) | (apply Keep.drop; · rfl))
    · kernel_rfl
    refine AX.condF (h := ?_)
    refine AX.keepA [3, 4, 5, 7] (h := ?_)
    refine AX.skip ?_
    try simp only [thenS_normal, thenS_ret, thenS_exit, blockS_normal, blockS_ret, blockS_exit, backS_ret, backS_exit, if_true]
    refine AX.sregCV [3, 4, 5, 7, 9] (And.intro c12 (And.intro c13 (And.intro c14 True.intro))) (hq := ?_)
    by_cases hX : 0 < X
    · refine AX.sregWV [6] (And.intro @hX True.intro) (And.intro c15 (And.intro c16 (And.intro caw True.intro))) (hq := ?_)
      refine AX.ret (And.intro (Or.inl rfl) ?_)
      exact Done.one rfl rfl rfl rfl
    · by_cases hY : 0 < Y1
      · refine AX.sregWV [6] (And.intro @hX (And.intro @hY True.intro)) (And.intro c15 (And.intro c16 (And.intro c17 (And.intro caw True.intro)))) (hq := ?_)
        refine AX.ret (And.intro (Or.inl rfl) ?_)
        exact Done.one rfl rfl rfl rfl
      · have hY2 := tr hX hY
        refine AX.sregWV [6] (And.intro @hX (And.intro @hY (And.intro @hY2 True.intro))) (And.intro c15 (And.intro c16 (And.intro c17 (And.intro c18 (And.intro caw True.intro))))) (hq := ?_)
        refine AX.ret (And.intro (Or.inl rfl) ?_)
        exact Done.one rfl rfl rfl rfl
  · rw [Bool.not_eq_true] at h
    rw [h] at cf
    refine AX.sregCV [3, 4, 5, 15] (And.intro cf True.intro) (hq := ?_)
    refine AX.condT (h := ?_)
    refine AX.sregCV [6] (And.intro caw True.intro) (hq := ?_)
    refine AX.ret (And.intro (Or.inl rfl) ?_)
    exact Done.one rfl rfl rfl rfl

end Go.Proofs.Ytmhjcmochemndaa
