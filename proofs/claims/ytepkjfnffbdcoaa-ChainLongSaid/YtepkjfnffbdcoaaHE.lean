/- Elimination as a whole: steps. -/
import Derived.Test.YtepkjfnffbdcoaaGaN
set_option linter.unusedVariables false
set_option maxRecDepth 20000
set_option linter.unusedSimpArgs false
namespace Go.Proofs.Ytepkjfnffbdcoaa
open Go Go.Proofs.Ytepkjfnffbdcoaa.Lift
attribute [local irreducible] Lift.PCall Lift.HCall

theorem Lift.DoneG.rowT {st : St} {t t' : Tmp} {k : IntKind} {n : Int} {b : Bool} {T : TypeId} {xs : List Rat} (h1 : lkp st.fr t = some (.i k n)) (h2 : lkp st.fr t' = some (.b b)) (h : lkp st.hp 0 = some ⟨T, qrow xs⟩) : DoneG Try.prog #[.tmp t, .tmp t'] (.tup [.i k n, .b b]) [⟨T, qrow xs⟩] st := by
  refine ⟨[.i k n, .b b], by simp only [resVs, resV, h1, h2], rfl, rfl, by simp only [V.ren, V.renL], fun m hm => ?_⟩
  obtain rfl : m = 0 := by simpa using hm
  exact ⟨h, lt_q _ _, ren_q _ _⟩
theorem qtk (w n : Nat) (B : Mx) : List.take (n * w * 3) (qrow (mcells w B (n * w))) = qrow (mcells w B (n * w)) := List.take_of_length_le (by rw [qlen]; exact Nat.le_refl _)
theorem qch (w n : Nat) (B : Mx) : chunks 3 (n * w) (qrow (mcells w B (n * w))) = (mcells w B (n * w)).map rV := by
  have := chunks_q (mcells w B (n * w))
  rwa [mcells_length] at this

set_option maxHeartbeats 16000000 in
theorem steps_ok (n w L : Nat) (hn : n ≤ 200) (hnw : n ≤ w) (hw : w ≤ 200) (A : Mx) (hA : NonSing n A) (hL : ∀ i j, i < n → j < w → rL (A i j) ≤ L) (hL1 : 1 ≤ L) (hL2 : 4 * (4 ^ n * (L + 1)) < 2 ^ 33) :
    GCall Try.prog 91 [.agg [.i .i64 n, .i .i64 w, .own 0 0 (n * w) 3], .i .i64 n] [⟨25, qrow (mcells w A (n * w))⟩] [⟨25, qrow (mcells w (elim n A n).1 (n * w))⟩] (.tup [.i .i64 n, .b (elim n A n).2]) := by
  have spec := elim_spec hnw hA hL hL1
  have mono : ∀ c, c ≤ n → 4 ^ c * (L + 1) ≤ 4 ^ n * (L + 1) := fun c hc => Nat.mul_le_mul_right _ (Nat.pow_le_pow_right (by omega) hc)
  refine GCall.of_ax rfl Try.call91 Try.func91 rfl (by simp [Try.ntmps91]) fun O M w0 G => ?_
  simp only [Try.ntmps91, Try.results91, argFr, rowsFr, List.length_cons, List.length_nil, Nat.zero_add, Nat.reduceAdd]
  generalize hW : 4 ^ n * (L + 1) = W at *
  refine AX.sregAV [1, 2] (hq := ?_)
  refine AX.sregAV [1, 2, 6, 7] (hq := ?_)
  refine AX.seq ?_
  refine AX.sregAV [1, 2, 6, 7, 8] (hq := ?_)
  refine AX.block ?_
  refine AX.loop (fun N st => ∃ (c : Nat) (B : Mx) (o : Bool), c ≤ n ∧ N = n - c ∧ elim n A c = (B, o) ∧ st = ⟨[(8, .i .i64 c), (7, .b o), (6, .i .i64 c), (2, .ptr 1 0), (1, .i .i64 n)], [(1, ⟨35, [.i .i64 n, .i .i64 w, .own 0 0 (n * w) 3]⟩), (0, ⟨25, qrow (mcells w B (n * w))⟩)], 2⟩) n ⟨0, A, false, Nat.zero_le _, rfl, rfl, rfl⟩ ?_
  rintro N st ⟨c, B, o, hc, rfl, hE, rfl⟩
  refine AX.seq ?_
  by_cases h1 : c < n
  · obtain ⟨s1, s2, s3, s4⟩ := spec c hc
    obtain ⟨p, p1, p2, p3, p4⟩ := s4 h1
    rw [hE] at s1 s2 s3 p1 p4
    simp only at s1 s2 s3 p1 p4
    have mc := mono c hc
    have mc1 := mono (c + 1) h1
    have hBW : ∀ i j, i < n → j < w → rL (B i j) ≤ 4 ^ c * (L + 1) - 1 := fun i j hi hj => by have := s3 i j hi hj; omega
    have cp := pivot_ok n w c c W hn hw B hc (by omega) (fun i hi => by have := hBW i c hi (by omega); omega) (by omega)
    rw [p1] at cp
    have hl := qlen w n B
    have tk := qtk w n B
    have ch := qch w n B
    have kb : n * w ≤ 200 * 200 := Nat.mul_le_mul hn hw
    have hsw := swap_ok n w p c hn hw B p3 h1
    obtain ⟨B1, hB1⟩ : ∃ B1, swapIf B p c = B1 := ⟨_, rfl⟩
    obtain ⟨o1, ho1⟩ : ∃ o1, (if p = c then o else !o) = o1 := ⟨_, rfl⟩
    have hE1 : elim n A (c + 1) = (clrTo B1 c (n - (c + 1)), o1) := by
      rw [elim, hE]
      simp only
      rw [p1, Int.toNat_natCast, hB1, ho1]
    have hcc : B1 c c ≠ 0 := by rw [← hB1, swapIf_piv]; exact p4
    have hB1L : ∀ i j, i < n → j < w → rL (B1 i j) ≤ 4 ^ c * (L + 1) - 1 := by
      intro i j hi hj
      rw [← hB1]
      unfold swapIf
      split
      · exact hBW i j hi hj
      · rw [swapM_at]
        split
        · exact hBW c j h1 hj
        · split
          · exact hBW p j p3 hj
          · exact hBW i j hi hj
    have q4 : 4 ^ (c + 1) * (L + 1) = 4 * (4 ^ c * (L + 1)) := by rw [Nat.pow_succ, Nat.mul_comm (4 ^ c) 4, Nat.mul_assoc]
    have q5 : 1 * (L + 1) ≤ 4 ^ c * (L + 1) := Nat.mul_le_mul_right _ (Nat.pow_pos (by omega))
    have hT := clrTo_len hcc h1 hnw hB1L (by omega)
    have hTc : ∀ t, clrTo B1 c t c = B1 c := fun t => (clrTo_spec hcc t).1 c (.inl (Nat.le_refl _))
    refine AX.sregAV [1, 2, 6, 7, 8, 19] (hq := ?_)
    refine AX.condT (h := ?_)
    refine AX.keepA [1, 2, 6, 7, 8] (h := ?_)
    refine AX.skip ?_
    try simp only [thenS_normal, thenS_ret, thenS_exit, blockS_normal, blockS_ret, blockS_exit, backS_ret, backS_exit, if_true]
    refine AX.seq ?_
    refine AX.block ?_
    refine AX.sregWV [1, 2, 6, 7, 8, 9] (And.intro @hl (And.intro @tk (And.intro @ch (And.intro @flat_q (And.intro @hf_q True.intro))))) (And.intro cp True.intro) (hq := ?_)
    refine AX.seq ?_
    refine AX.sregAV [1, 2, 6, 7, 8, 9, 27] (hq := ?_)
    refine AX.condF (h := ?_)
    refine AX.keepA [1, 2, 6, 7, 8, 9] (h := ?_)
    refine AX.skip ?_
    try simp only [thenS_normal, thenS_ret, thenS_exit, blockS_normal, blockS_ret, blockS_exit, backS_ret, backS_exit, if_true]
    refine AX.cut (fun st => Le 1 id ⟨[(8, .i .i64 c), (7, .b o1), (6, .i .i64 c), (2, .ptr 1 0), (1, .i .i64 n)], [(1, ⟨35, [.i .i64 n, .i .i64 w, .own 0 0 (n * w) 3]⟩), (0, ⟨25, qrow (mcells w B1 (n * w))⟩)], 2⟩ st) ?_ ?_
    · by_cases hpc : p = c
      · subst hpc
        rw [if_pos rfl] at ho1
        unfold swapIf at hB1
        rw [if_pos rfl] at hB1
        subst ho1 hB1
        refine AX.sregAV [1, 2, 6, 7, 8, 9, 30] (hq := ?_)
        refine AX.condF (h := ?_)
        refine AX.keepA [1, 2, 6, 7, 8] (h := ?_)
        refine AX.skip ⟨rfl,
          ⟨by simp only [ren_q, renL_u, lt_q, ltL_u, LeFr, LeHp, lkp, V.ren, V.renL, Row.ren, V.lt, V.ltL, renL_u, ltL_u, List.length_append, List.length_cons, List.length_nil, List.length_set, id_eq, Option.some.injEq, V.i.injEq, V.b.injEq, V.own.injEq, Row.mk.injEq, decide_true, decide_eq_true_eq, true_and, and_true, Bool.and_true, Bool.true_and, if_true, if_false, and_self, Nat.reduceLT, Nat.reduceLeDiff, Nat.reduceEqDiff, Nat.reduceAdd, Nat.reduceSub, Nat.reduceMul, Nat.reducePow, Nat.reduceBEq, Int.reduceLE, Int.reduceLT, Int.reduceToNat, Int.reduceEq, Int.reduceNeg, reduceIte, reduceCtorEq] <;> (first | done | trivial | (and_intros <;> first | trivial | omega | assumption)), by simp only [ren_q, renL_u, lt_q, ltL_u, LeFr, LeHp, lkp, V.ren, V.renL, Row.ren, V.lt, V.ltL, renL_u, ltL_u, List.length_append, List.length_cons, List.length_nil, List.length_set, id_eq, Option.some.injEq, V.i.injEq, V.b.injEq, V.own.injEq, Row.mk.injEq, decide_true, decide_eq_true_eq, true_and, and_true, Bool.and_true, Bool.true_and, if_true, if_false, and_self, Nat.reduceLT, Nat.reduceLeDiff, Nat.reduceEqDiff, Nat.reduceAdd, Nat.reduceSub, Nat.reduceMul, Nat.reducePow, Nat.reduceBEq, Int.reduceLE, Int.reduceLT, Int.reduceToNat, Int.reduceEq, Int.reduceNeg, reduceIte, reduceCtorEq] <;> (first | done | trivial | (and_intros <;> first | trivial | omega | assumption)), by simp [Apart], by first | exact Nat.zero_le _ | simp, by intro n hn; first | rfl | exact absurd hn (Nat.not_lt_zero _) | (have h0 : n = 0 := Nat.lt_one_iff.1 hn; subst h0; rfl)⟩
          ⟩
      · rw [if_neg hpc] at ho1
        unfold swapIf at hB1
        rw [if_neg hpc] at hB1
        rw [hB1] at hsw
        subst ho1
        refine AX.sregAV [1, 2, 6, 7, 8, 9, 30] (hq := ?_)
        refine AX.condT (h := ?_)
        apply AX.sreg [1, 2, 6, 7, 8] (by simp only [pq]; rfl)
        · repeat (first
         | (apply RunO.op rfl; · rfl
            · (simp only [opsOf, valsOf, valOf, lkp, ofConst, ofCell, Array.toList, Option.toList, List.map_cons, List.map_nil, List.cons_append, List.nil_append, List.append_nil, Nat.reduceEqDiff, Nat.reducePow, Nat.reduceLT, Nat.reduceLeDiff, reduceIte, if_true, if_false, IntKind.min, IntKind.max, IntKind.bits, IntKind.signed, Int.reduceLE, Int.reduceNeg, Int.reducePow, Int.reduceSub, and_self, Bool.false_eq_true, Nat.reduceSub]; rfl)
            iterate 2 (· (simp (disch := omega) only [go_sem, i64_of, u32_of, u64_of, Nat.reduceLT, Nat.reduceLeDiff, Nat.reduceEqDiff, Nat.reduceAdd, Nat.reduceSub, Nat.reduceMul, Nat.reducePow, Nat.reduceBEq, Int.reduceLE, Int.reduceLT, Int.reduceToNat, Int.reduceEq, Int.reduceNeg, reduceIte, reduceCtorEq]; rfl))
            · (simp only [pb, Nat.reduceLT, Nat.reduceAdd, reduceIte]; rfl))
         | (apply RunO.gcall [0] rfl; · rfl
            · (simp only [opsOf, valsOf, valOf, lkp, ofConst, ofCell, Array.toList, Option.toList, List.map_cons, List.map_nil, List.cons_append, List.nil_append, List.append_nil, Nat.reduceEqDiff, Nat.reducePow, Nat.reduceLT, Nat.reduceLeDiff, reduceIte, if_true, if_false, IntKind.min, IntKind.max, IntKind.bits, IntKind.signed, Int.reduceLE, Int.reduceNeg, Int.reducePow, Int.reduceSub, and_self, Bool.false_eq_true, Nat.reduceSub]; rfl)
            · exact hsw
            · first | rfl | (simp only [Row.ren, V.ren, V.renL, renS, ren_q, renL_u]; rfl)
            · first | rfl | (simp only [V.lt, V.ltL, ltS, lt_q, ltL_u]; rfl)
            · decide
            · repeat' (first | exact trivial | rfl | (simp only [Row.ren, V.ren, V.renL, renS, ren_q, renL_u]; done) | (simp only [Row.ren, V.ren, V.renL, renS, ren_q, renL_u]; rfl) | (simp only [V.lt, V.ltL, ltS, lt_q, ltL_u]; done) | apply And.intro)
            · first | rfl | (simp only [Row.ren, V.ren, V.renL, renS, ren_q, renL_u]; rfl)
            · (simp only [setRows, setL, Row.ren, V.ren, V.renL, renS, ren_q, renL_u, pb, Nat.reduceLT, Nat.reduceAdd, Nat.reduceEqDiff, reduceIte]; rfl))
         | (apply RunO.skip; · rfl
            · (simp only [pb, Nat.reduceLT, Nat.reduceAdd, reduceIte]; rfl)))
          exact RunO.nil
        · repeat (first | exact Keep.nil | (apply Keep.take; · rfl) | (apply Keep.drop; · rfl))
        refine AX.regAV [1, 2, 6, 7, 8] (hq := ?_)
        exact ⟨rfl,
          ⟨by simp only [ren_q, renL_u, lt_q, ltL_u, LeFr, LeHp, lkp, V.ren, V.renL, Row.ren, V.lt, V.ltL, renL_u, ltL_u, List.length_append, List.length_cons, List.length_nil, List.length_set, id_eq, Option.some.injEq, V.i.injEq, V.b.injEq, V.own.injEq, Row.mk.injEq, decide_true, decide_eq_true_eq, true_and, and_true, Bool.and_true, Bool.true_and, if_true, if_false, and_self, Nat.reduceLT, Nat.reduceLeDiff, Nat.reduceEqDiff, Nat.reduceAdd, Nat.reduceSub, Nat.reduceMul, Nat.reducePow, Nat.reduceBEq, Int.reduceLE, Int.reduceLT, Int.reduceToNat, Int.reduceEq, Int.reduceNeg, reduceIte, reduceCtorEq] <;> (first | done | trivial | (and_intros <;> first | trivial | omega | assumption)), by simp only [ren_q, renL_u, lt_q, ltL_u, LeFr, LeHp, lkp, V.ren, V.renL, Row.ren, V.lt, V.ltL, renL_u, ltL_u, List.length_append, List.length_cons, List.length_nil, List.length_set, id_eq, Option.some.injEq, V.i.injEq, V.b.injEq, V.own.injEq, Row.mk.injEq, decide_true, decide_eq_true_eq, true_and, and_true, Bool.and_true, Bool.true_and, if_true, if_false, and_self, Nat.reduceLT, Nat.reduceLeDiff, Nat.reduceEqDiff, Nat.reduceAdd, Nat.reduceSub, Nat.reduceMul, Nat.reducePow, Nat.reduceBEq, Int.reduceLE, Int.reduceLT, Int.reduceToNat, Int.reduceEq, Int.reduceNeg, reduceIte, reduceCtorEq] <;> (first | done | trivial | (and_intros <;> first | trivial | omega | assumption)), by simp [Apart], by first | exact Nat.zero_le _ | simp, by intro n hn; first | rfl | exact absurd hn (Nat.not_lt_zero _) | (have h0 : n = 0 := Nat.lt_one_iff.1 hn; subst h0; rfl)⟩
          ⟩
    rintro st hle
    refine AX.weaken id hle ?_
    clear hle cp hsw hl tk ch
    refine AX.seq ?_
    refine AX.sregWV [1, 2, 6, 7, 8, 10] (And.intro @lit_add True.intro) True.intro (hq := ?_)
    refine AX.block ?_
    refine AX.loop (fun N st => ∃ (t : Nat) (B2 : Mx), c + 1 + t ≤ n ∧ N = n - (c + 1 + t) ∧ clrTo B1 c t = B2 ∧ st = ⟨[(10, .i .i64 (c + 1 + t : Nat)), (8, .i .i64 c), (7, .b o1), (6, .i .i64 c), (2, .ptr 1 0), (1, .i .i64 n)], [(1, ⟨35, [.i .i64 n, .i .i64 w, .own 0 0 (n * w) 3]⟩), (0, ⟨25, qrow (mcells w B2 (n * w))⟩)], 2⟩) (n - (c + 1)) ⟨0, B1, by omega, rfl, rfl, rfl⟩ ?_
    rintro N st ⟨t, B2, ht, rfl, hB2, rfl⟩
    refine AX.seq ?_
    by_cases h2 : c + 1 + t < n
    · have hB2c : B2 c = B1 c := by rw [← hB2]; exact hTc t
      have hclr := clear_ok n w c (c + 1 + t) c W hn hw B2 h1 h2 (by omega) (by omega) (by rw [hB2c]; exact hcc) (fun i j hi hj => by
        have := hT t (by omega) i j hi hj
        rw [hB2] at this
        omega) (by omega) (by omega)
      have hnext : clrTo B1 c (t + 1) = clearM B2 c (c + 1 + t) (B2 (c + 1 + t) c / B2 c c) := by rw [clrTo, hB2]
      obtain ⟨B3, hB3⟩ : ∃ B3, clearM B2 c (c + 1 + t) (B2 (c + 1 + t) c / B2 c c) = B3 := ⟨_, rfl⟩
      rw [hB3] at hclr hnext
      refine AX.sregAV [1, 2, 6, 7, 8, 10, 42] (hq := ?_)
      refine AX.condT (h := ?_)
      refine AX.keepA [1, 2, 6, 7, 8, 10] (h := ?_)
      refine AX.skip ?_
      try simp only [thenS_normal, thenS_ret, thenS_exit, blockS_normal, blockS_ret, blockS_exit, backS_ret, backS_exit, if_true]
      refine AX.seq ?_
      refine AX.block ?_
      apply AX.reg [1, 2, 6, 7, 8, 10] (by simp only [pq]; rfl)
      · repeat (first
       | (apply RunO.op rfl; · rfl
          · (simp only [opsOf, valsOf, valOf, lkp, ofConst, ofCell, Array.toList, Option.toList, List.map_cons, List.map_nil, List.cons_append, List.nil_append, List.append_nil, Nat.reduceEqDiff, Nat.reducePow, Nat.reduceLT, Nat.reduceLeDiff, reduceIte, if_true, if_false, IntKind.min, IntKind.max, IntKind.bits, IntKind.signed, Int.reduceLE, Int.reduceNeg, Int.reducePow, Int.reduceSub, and_self, Bool.false_eq_true, Nat.reduceSub]; rfl)
          iterate 2 (· (simp (disch := omega) only [go_sem, i64_of, u32_of, u64_of, Nat.reduceLT, Nat.reduceLeDiff, Nat.reduceEqDiff, Nat.reduceAdd, Nat.reduceSub, Nat.reduceMul, Nat.reducePow, Nat.reduceBEq, Int.reduceLE, Int.reduceLT, Int.reduceToNat, Int.reduceEq, Int.reduceNeg, reduceIte, reduceCtorEq]; rfl))
          · (simp only [pb, Nat.reduceLT, Nat.reduceAdd, reduceIte]; rfl))
       | (apply RunO.gcall [0] rfl; · rfl
          · (simp only [opsOf, valsOf, valOf, lkp, ofConst, ofCell, Array.toList, Option.toList, List.map_cons, List.map_nil, List.cons_append, List.nil_append, List.append_nil, Nat.reduceEqDiff, Nat.reducePow, Nat.reduceLT, Nat.reduceLeDiff, reduceIte, if_true, if_false, IntKind.min, IntKind.max, IntKind.bits, IntKind.signed, Int.reduceLE, Int.reduceNeg, Int.reducePow, Int.reduceSub, and_self, Bool.false_eq_true, Nat.reduceSub]; rfl)
          · exact hclr
          · first | rfl | (simp only [Row.ren, V.ren, V.renL, renS, ren_q, renL_u]; rfl)
          · first | rfl | (simp only [V.lt, V.ltL, ltS, lt_q, ltL_u]; rfl)
          · decide
          · repeat' (first | exact trivial | rfl | (simp only [Row.ren, V.ren, V.renL, renS, ren_q, renL_u]; done) | (simp only [Row.ren, V.ren, V.renL, renS, ren_q, renL_u]; rfl) | (simp only [V.lt, V.ltL, ltS, lt_q, ltL_u]; done) | apply And.intro)
          · first | rfl | (simp only [Row.ren, V.ren, V.renL, renS, ren_q, renL_u]; rfl)
          · (simp only [setRows, setL, Row.ren, V.ren, V.renL, renS, ren_q, renL_u, pb, Nat.reduceLT, Nat.reduceAdd, Nat.reduceEqDiff, reduceIte]; rfl))
       | (apply RunO.skip; · rfl
          · (simp only [pb, Nat.reduceLT, Nat.reduceAdd, reduceIte]; rfl)))
        exact RunO.nil
      · repeat (first | exact Keep.nil | (apply Keep.take; · rfl) | (apply Keep.drop; · rfl))
      try simp only [thenS_normal, thenS_ret, thenS_exit, blockS_normal, blockS_ret, blockS_exit, backS_ret, backS_exit, if_true]
      refine AX.regWV [1, 2, 6, 7, 8, 10] (And.intro @lit_add True.intro) True.intro (hq := ?_)
      try simp only [thenS_normal, thenS_ret, thenS_exit, blockS_normal, blockS_ret, blockS_exit, backS_ret, backS_exit, if_true]
      refine ⟨_, _, id, ?_,
        ⟨by simp only [ren_q, renL_u, lt_q, ltL_u, LeFr, LeHp, lkp, V.ren, V.renL, Row.ren, V.lt, V.ltL, renL_u, ltL_u, List.length_append, List.length_cons, List.length_nil, List.length_set, id_eq, Option.some.injEq, V.i.injEq, V.b.injEq, V.own.injEq, Row.mk.injEq, decide_true, decide_eq_true_eq, true_and, and_true, Bool.and_true, Bool.true_and, if_true, if_false, and_self, Nat.reduceLT, Nat.reduceLeDiff, Nat.reduceEqDiff, Nat.reduceAdd, Nat.reduceSub, Nat.reduceMul, Nat.reducePow, Nat.reduceBEq, Int.reduceLE, Int.reduceLT, Int.reduceToNat, Int.reduceEq, Int.reduceNeg, reduceIte, reduceCtorEq] <;> (first | done | trivial | (and_intros <;> first | trivial | omega | assumption)), by simp only [ren_q, renL_u, lt_q, ltL_u, LeFr, LeHp, lkp, V.ren, V.renL, Row.ren, V.lt, V.ltL, renL_u, ltL_u, List.length_append, List.length_cons, List.length_nil, List.length_set, id_eq, Option.some.injEq, V.i.injEq, V.b.injEq, V.own.injEq, Row.mk.injEq, decide_true, decide_eq_true_eq, true_and, and_true, Bool.and_true, Bool.true_and, if_true, if_false, and_self, Nat.reduceLT, Nat.reduceLeDiff, Nat.reduceEqDiff, Nat.reduceAdd, Nat.reduceSub, Nat.reduceMul, Nat.reducePow, Nat.reduceBEq, Int.reduceLE, Int.reduceLT, Int.reduceToNat, Int.reduceEq, Int.reduceNeg, reduceIte, reduceCtorEq] <;> (first | done | trivial | (and_intros <;> first | trivial | omega | assumption)), by simp [Apart], by first | exact Nat.zero_le _ | simp, by intro n hn; first | rfl | exact absurd hn (Nat.not_lt_zero _) | (have h0 : n = 0 := Nat.lt_one_iff.1 hn; subst h0; rfl)⟩
        , ⟨t + 1, B3, by omega, rfl, hnext, rfl⟩⟩
      omega
    · refine AX.sregAV [1, 2, 6, 7, 8, 10, 42] (hq := ?_)
      refine AX.condF (h := ?_)
      refine AX.exit ?_
      try simp only [thenS_normal, thenS_ret, thenS_exit, blockS_normal, blockS_ret, blockS_exit, backS_ret, backS_exit, if_true]
      refine AX.regWV [1, 2, 6, 7, 8] (And.intro @lit_add True.intro) True.intro (hq := ?_)
      try simp only [thenS_normal, thenS_ret, thenS_exit, blockS_normal, blockS_ret, blockS_exit, backS_ret, backS_exit, if_true]
      refine AX.regWV [1, 2, 6, 7, 8] (And.intro @lit_add True.intro) True.intro (hq := ?_)
      try simp only [thenS_normal, thenS_ret, thenS_exit, blockS_normal, blockS_ret, blockS_exit, backS_ret, backS_exit, if_true]
      have e : t = n - (c + 1) := by omega
      subst e
      rw [hB2] at hE1
      refine ⟨_, _, id, ?_,
        ⟨by simp only [ren_q, renL_u, lt_q, ltL_u, LeFr, LeHp, lkp, V.ren, V.renL, Row.ren, V.lt, V.ltL, renL_u, ltL_u, List.length_append, List.length_cons, List.length_nil, List.length_set, id_eq, Option.some.injEq, V.i.injEq, V.b.injEq, V.own.injEq, Row.mk.injEq, decide_true, decide_eq_true_eq, true_and, and_true, Bool.and_true, Bool.true_and, if_true, if_false, and_self, Nat.reduceLT, Nat.reduceLeDiff, Nat.reduceEqDiff, Nat.reduceAdd, Nat.reduceSub, Nat.reduceMul, Nat.reducePow, Nat.reduceBEq, Int.reduceLE, Int.reduceLT, Int.reduceToNat, Int.reduceEq, Int.reduceNeg, reduceIte, reduceCtorEq] <;> (first | done | trivial | (and_intros <;> first | trivial | omega | assumption)), by simp only [ren_q, renL_u, lt_q, ltL_u, LeFr, LeHp, lkp, V.ren, V.renL, Row.ren, V.lt, V.ltL, renL_u, ltL_u, List.length_append, List.length_cons, List.length_nil, List.length_set, id_eq, Option.some.injEq, V.i.injEq, V.b.injEq, V.own.injEq, Row.mk.injEq, decide_true, decide_eq_true_eq, true_and, and_true, Bool.and_true, Bool.true_and, if_true, if_false, and_self, Nat.reduceLT, Nat.reduceLeDiff, Nat.reduceEqDiff, Nat.reduceAdd, Nat.reduceSub, Nat.reduceMul, Nat.reducePow, Nat.reduceBEq, Int.reduceLE, Int.reduceLT, Int.reduceToNat, Int.reduceEq, Int.reduceNeg, reduceIte, reduceCtorEq] <;> (first | done | trivial | (and_intros <;> first | trivial | omega | assumption)), by simp [Apart], by first | exact Nat.zero_le _ | simp, by intro n hn; first | rfl | exact absurd hn (Nat.not_lt_zero _) | (have h0 : n = 0 := Nat.lt_one_iff.1 hn; subst h0; rfl)⟩
        , ⟨c + 1, B2, o1, by omega, rfl, hE1, rfl⟩⟩
      omega
  · have e : c = n := by omega
    subst e
    rw [hE]
    refine AX.sregAV [1, 2, 6, 7, 8, 19] (hq := ?_)
    refine AX.condF (h := ?_)
    refine AX.exit ?_
    try simp only [thenS_normal, thenS_ret, thenS_exit, blockS_normal, blockS_ret, blockS_exit, backS_ret, backS_exit, if_true]
    refine AX.sregAV [4, 5] (hq := ?_)
    refine AX.ret (And.intro (Or.inl rfl) ?_)
    exact DoneG.rowT rfl rfl rfl

end Go.Proofs.Ytepkjfnffbdcoaa

/- Elimination as a whole: solved and Solve. -/
set_option linter.unusedVariables false
set_option linter.unusedSimpArgs false
namespace Go.Proofs.Ytepkjfnffbdcoaa
open Go Go.Proofs.Ytepkjfnffbdcoaa.Lift
attribute [local irreducible] Lift.PCall Lift.HCall

/-- The matrix and the right-hand sides side by side. -/
def aug (n : Nat) (A B : Mx) : Mx := fun i k => if k < n then A i k else B i (k - n)
theorem aug_nonsing {n : Nat} {A B : Mx} (h : NonSing n A) : NonSing n (aug n A B) := by
  intro y hy
  refine h y fun i hi => ?_
  rw [← hy i hi]
  exact sumN_congr fun k hk => by unfold aug; rw [if_pos hk]
def fin (n : Nat) (A B : Mx) : Mx := bakS n (elim n (aug n A B) n).1 n
def solX (n : Nat) (A B : Mx) : Mx := fun i k => fin n A B i (n + k) / fin n A B i i

set_option maxHeartbeats 4000000 in
theorem solved1_ok (n c L : Nat) (hn : n ≤ 100) (hc : c ≤ 100) (A B : Mx) (i k : Nat) (hi : i < n) (hk : k < n + c) (hA : ∀ i j, i < n → j < n → rL (A i j) ≤ L) (hB : ∀ i j, i < n → j < c → rL (B i j) ≤ L) (hL : L < 2 ^ 38) :
    PCall Try.prog 89 [.i .i64 i, .i .i64 k, .rp [.i .i64 n], .rp [.i .i64 n, .i .i64 n, .sl ((mcells n A (n * n)).map rV)], .rp [.i .i64 n, .i .i64 c, .sl ((mcells c B (n * c)).map rV)]] (rV (aug n A B i k)) [] := by
  have hcop : ∀ q : Rat, rL q ≤ L → PCall Try.prog 90 [.agg [.b (decide (q.num < 0)), dg (digits q.num.natAbs), dg (digits q.den)]] (.agg [.b (decide (q.num < 0)), dg (digits q.num.natAbs), dg (digits q.den)]) [] := fun q hq =>
    copied_ok _ _ _ (Nat.lt_of_le_of_lt (Nat.le_trans (Nat.le_max_left _ _) hq) hL) (Nat.lt_of_le_of_lt (Nat.le_trans (Nat.le_max_right _ _) hq) hL)
  refine PCall.of_ax Try.call89 Try.func89 rfl (by simp [Try.ntmps89]) fun O w0 => ?_
  simp only [Try.ntmps89, Try.results89, argFr]
  refine AX.sregAV [0, 1, 2, 3, 4, 7] (hq := ?_)
  refine AX.seq ?_
  by_cases h : k < n
  · have e : aug n A B i k = A i k := by unfold aug; rw [if_pos h]
    rw [e]
    obtain ⟨z, hz⟩ : ∃ z, i * n + k = z := ⟨_, rfl⟩
    have m1 : (i : Int) * (n : Int) = ((i * n : Nat) : Int) := (Int.natCast_mul i n).symm
    have a1 : ((i * n : Nat) : Int) + (k : Int) = (z : Int) := by rw [← Int.natCast_add, hz]
    have hix := fun x y => effIxM (x := x) (y := y) A hi h hz
    have b1 : i * n ≤ 100 * 100 := Nat.mul_le_mul (by omega) hn
    have cc := hcop (A i k) (hA i k hi h)
    generalize A i k = q at *
    generalize i * n = x1 at *
    refine AX.sregAV [0, 1, 2, 3, 4, 7, 10] (hq := ?_)
    refine AX.condT (h := ?_)
    apply AX.sreg [7] (by simp only [pq]; rfl)
    · repeat (first
     | (apply RunO.op rfl; · rfl
        · (simp only [opsOf, valsOf, valOf, lkp, ofConst, ofCell, Array.toList, Option.toList, List.map_cons, List.map_nil, List.cons_append, List.nil_append, List.append_nil, Nat.reduceEqDiff, Nat.reducePow, Nat.reduceLT, Nat.reduceLeDiff, reduceIte, if_true, if_false, IntKind.min, IntKind.max, IntKind.bits, IntKind.signed, Int.reduceLE, Int.reduceNeg, Int.reducePow, Int.reduceSub, and_self, Bool.false_eq_true, Nat.reduceSub]; rfl)
        · first | exact hix _ _ | (simp (disch := omega) only [go_sem, i64_of, u32_of, u64_of, Nat.reduceLT, Nat.reduceLeDiff, Nat.reduceEqDiff, Nat.reduceAdd, Nat.reduceSub, Nat.reduceMul, Nat.reducePow, Nat.reduceBEq, Int.reduceLE, Int.reduceLT, Int.reduceToNat, Int.reduceEq, Int.reduceNeg, reduceIte, reduceCtorEq, m1, a1]; rfl)
        · (simp (disch := omega) only [go_sem, i64_of, u32_of, u64_of, Nat.reduceLT, Nat.reduceLeDiff, Nat.reduceEqDiff, Nat.reduceAdd, Nat.reduceSub, Nat.reduceMul, Nat.reducePow, Nat.reduceBEq, Int.reduceLE, Int.reduceLT, Int.reduceToNat, Int.reduceEq, Int.reduceNeg, reduceIte, reduceCtorEq, m1, a1]; rfl)
        · (simp only [pb, Nat.reduceLT, Nat.reduceAdd, reduceIte]; rfl))
     | (apply RunO.call rfl; · rfl
        · (simp only [opsOf, valsOf, valOf, lkp, ofConst, ofCell, Array.toList, Option.toList, List.map_cons, List.map_nil, List.cons_append, List.nil_append, List.append_nil, Nat.reduceEqDiff, Nat.reducePow, Nat.reduceLT, Nat.reduceLeDiff, reduceIte, if_true, if_false, IntKind.min, IntKind.max, IntKind.bits, IntKind.signed, Int.reduceLE, Int.reduceNeg, Int.reducePow, Int.reduceSub, and_self, Bool.false_eq_true, Nat.reduceSub]; rfl)
        · (simp (disch := omega) only [go_sem, i64_of, u32_of, u64_of, Nat.reduceLT, Nat.reduceLeDiff, Nat.reduceEqDiff, Nat.reduceAdd, Nat.reduceSub, Nat.reduceMul, Nat.reducePow, Nat.reduceBEq, Int.reduceLE, Int.reduceLT, Int.reduceToNat, Int.reduceEq, Int.reduceNeg, reduceIte, reduceCtorEq, m1, a1]; rfl)
        · rfl
        · (first | exact cc)
        · (simp (disch := omega) only [go_sem, i64_of, u32_of, u64_of, Nat.reduceLT, Nat.reduceLeDiff, Nat.reduceEqDiff, Nat.reduceAdd, Nat.reduceSub, Nat.reduceMul, Nat.reducePow, Nat.reduceBEq, Int.reduceLE, Int.reduceLT, Int.reduceToNat, Int.reduceEq, Int.reduceNeg, reduceIte, reduceCtorEq, m1, a1]; rfl)
        · (simp only [pb, Nat.reduceLT, Nat.reduceAdd, reduceIte]; rfl))
     | (apply RunO.skip; · rfl
        · (simp only [pb, Nat.reduceLT, Nat.reduceAdd, reduceIte]; rfl)))
      exact RunO.nil
    · repeat (first | exact Keep.nil | (apply Keep.take; · rfl) | (apply Keep.drop; · rfl))
    refine AX.ret (And.intro (Or.inl rfl) ?_)
    exact Done.cell rfl rfl
  · have e : aug n A B i k = B i (k - n) := by unfold aug; rw [if_neg h]
    rw [e]
    have hk' : k - n < c := by omega
    obtain ⟨z, hz⟩ : ∃ z, i * c + (k - n) = z := ⟨_, rfl⟩
    have m1 : (i : Int) * (c : Int) = ((i * c : Nat) : Int) := (Int.natCast_mul i c).symm
    have a1 : ((i * c : Nat) : Int) + (k : Int) = ((i * c + k : Nat) : Int) := (Int.natCast_add _ _).symm
    have a2 : ((i * c + k : Nat) : Int) - (n : Int) = (z : Int) := by omega
    have hix := fun x y => effIxM (x := x) (y := y) B hi hk' hz
    have b1 : i * c ≤ 100 * 100 := Nat.mul_le_mul (by omega) hc
    have cc := hcop (B i (k - n)) (hB i (k - n) hi hk')
    generalize B i (k - n) = q at *
    generalize i * c = x1 at *
    refine AX.sregAV [0, 1, 2, 3, 4, 7, 10] (hq := ?_)
    refine AX.condF (h := ?_)
    refine AX.keepA [0, 1, 2, 4, 7] (h := ?_)
    refine AX.skip ?_
    try simp only [thenS_normal, thenS_ret, thenS_exit, blockS_normal, blockS_ret, blockS_exit, backS_ret, backS_exit, if_true]
    apply AX.sreg [7] (by simp only [pq]; rfl)
    · repeat (first
     | (apply RunO.op rfl; · rfl
        · (simp only [opsOf, valsOf, valOf, lkp, ofConst, ofCell, Array.toList, Option.toList, List.map_cons, List.map_nil, List.cons_append, List.nil_append, List.append_nil, Nat.reduceEqDiff, Nat.reducePow, Nat.reduceLT, Nat.reduceLeDiff, reduceIte, if_true, if_false, IntKind.min, IntKind.max, IntKind.bits, IntKind.signed, Int.reduceLE, Int.reduceNeg, Int.reducePow, Int.reduceSub, and_self, Bool.false_eq_true, Nat.reduceSub]; rfl)
        · first | exact hix _ _ | (simp (disch := omega) only [go_sem, i64_of, u32_of, u64_of, Nat.reduceLT, Nat.reduceLeDiff, Nat.reduceEqDiff, Nat.reduceAdd, Nat.reduceSub, Nat.reduceMul, Nat.reducePow, Nat.reduceBEq, Int.reduceLE, Int.reduceLT, Int.reduceToNat, Int.reduceEq, Int.reduceNeg, reduceIte, reduceCtorEq, m1, a1, a2]; rfl)
        · (simp (disch := omega) only [go_sem, i64_of, u32_of, u64_of, Nat.reduceLT, Nat.reduceLeDiff, Nat.reduceEqDiff, Nat.reduceAdd, Nat.reduceSub, Nat.reduceMul, Nat.reducePow, Nat.reduceBEq, Int.reduceLE, Int.reduceLT, Int.reduceToNat, Int.reduceEq, Int.reduceNeg, reduceIte, reduceCtorEq, m1, a1, a2]; rfl)
        · (simp only [pb, Nat.reduceLT, Nat.reduceAdd, reduceIte]; rfl))
     | (apply RunO.call rfl; · rfl
        · (simp only [opsOf, valsOf, valOf, lkp, ofConst, ofCell, Array.toList, Option.toList, List.map_cons, List.map_nil, List.cons_append, List.nil_append, List.append_nil, Nat.reduceEqDiff, Nat.reducePow, Nat.reduceLT, Nat.reduceLeDiff, reduceIte, if_true, if_false, IntKind.min, IntKind.max, IntKind.bits, IntKind.signed, Int.reduceLE, Int.reduceNeg, Int.reducePow, Int.reduceSub, and_self, Bool.false_eq_true, Nat.reduceSub]; rfl)
        · (simp (disch := omega) only [go_sem, i64_of, u32_of, u64_of, Nat.reduceLT, Nat.reduceLeDiff, Nat.reduceEqDiff, Nat.reduceAdd, Nat.reduceSub, Nat.reduceMul, Nat.reducePow, Nat.reduceBEq, Int.reduceLE, Int.reduceLT, Int.reduceToNat, Int.reduceEq, Int.reduceNeg, reduceIte, reduceCtorEq, m1, a1, a2]; rfl)
        · rfl
        · (first | exact cc)
        · (simp (disch := omega) only [go_sem, i64_of, u32_of, u64_of, Nat.reduceLT, Nat.reduceLeDiff, Nat.reduceEqDiff, Nat.reduceAdd, Nat.reduceSub, Nat.reduceMul, Nat.reducePow, Nat.reduceBEq, Int.reduceLE, Int.reduceLT, Int.reduceToNat, Int.reduceEq, Int.reduceNeg, reduceIte, reduceCtorEq, m1, a1, a2]; rfl)
        · (simp only [pb, Nat.reduceLT, Nat.reduceAdd, reduceIte]; rfl))
     | (apply RunO.skip; · rfl
        · (simp only [pb, Nat.reduceLT, Nat.reduceAdd, reduceIte]; rfl)))
      exact RunO.nil
    · repeat (first | exact Keep.nil | (apply Keep.take; · rfl) | (apply Keep.drop; · rfl))
    refine AX.ret (And.intro (Or.inl rfl) ?_)
    exact Done.cell rfl rfl

set_option maxHeartbeats 4000000 in
theorem solved2_ok (n w L : Nat) (hn : n ≤ 100) (hw : w ≤ 200) (F : Mx) (i k : Nat) (hi : i < n) (hk : n + k < w) (hL : ∀ i j, i < n → j < w → rL (F i j) ≤ L) (hL1 : 1 ≤ L) (hL2 : L < 2 ^ 34) (h0 : F i i ≠ 0) :
    PCall Try.prog 93 [.i .i64 i, .i .i64 k, .rp [.i .i64 n, .i .i64 w, .sl ((mcells w F (n * w)).map rV)], .rp [.i .i64 n]] (rV (F i (n + k) / F i i)) [] := by
  refine PCall.of_ax Try.call93 Try.func93 rfl (by simp [Try.ntmps93]) fun O w0 => ?_
  simp only [Try.ntmps93, Try.results93, argFr]
  obtain ⟨z1, e1⟩ : ∃ z, i * w + (n + k) = z := ⟨_, rfl⟩
  obtain ⟨z2, e2⟩ : ∃ z, i * w + i = z := ⟨_, rfl⟩
  have m1 : (i : Int) * (w : Int) = ((i * w : Nat) : Int) := (Int.natCast_mul i w).symm
  have a1 : ((i * w : Nat) : Int) + (n : Int) = ((i * w + n : Nat) : Int) := (Int.natCast_add _ _).symm
  have a2 : ((i * w + n : Nat) : Int) + (k : Int) = (z1 : Int) := by omega
  have a3 : ((i * w : Nat) : Int) + (i : Int) = (z2 : Int) := by omega
  have hix1 := fun x y => effIxM (x := x) (y := y) F hi hk e1
  have hix2 := fun x y => effIxM (x := x) (y := y) F hi (show i < w by omega) e2
  have b1 : i * w ≤ 100 * 200 := Nat.mul_le_mul (by omega) hw
  have cd := qdiv_ok (IsQ.of (hL i (n + k) hi hk)) (IsQ.of (hL i i hi (by omega))) (by omega)
  unfold qdivV at cd
  rw [if_neg h0] at cd
  have cd' : PCall Try.prog 94 [.agg [.b (decide ((F i (n + k)).num < 0)), dg (digits (F i (n + k)).num.natAbs), dg (digits (F i (n + k)).den)], .agg [.b (decide ((F i i).num < 0)), dg (digits (F i i).num.natAbs), dg (digits (F i i).den)]]
      (.tup [.agg [.b (decide ((F i (n + k) / F i i).num < 0)), dg (digits (F i (n + k) / F i i).num.natAbs), dg (digits (F i (n + k) / F i i).den)], .i .i64 0]) [] := cd
  clear cd
  generalize F i (n + k) / F i i = f at *
  generalize F i (n + k) = q1 at *
  generalize F i i = q2 at *
  generalize i * w = x1 at *
  refine AX.sregAV [0, 1, 2, 3, 6] (hq := ?_)
  apply AX.sdreg [6, 7] (by kernel_rfl) (by simp only [pq]; rfl)
  · repeat (first
   | (apply RunD.op rfl; · rfl
      · (simp only [opsOf, valsOf, valOf, lkp, ofConst, ofCell, Array.toList, Option.toList, List.map_cons, List.map_nil, List.cons_append, List.nil_append, List.append_nil, Nat.reduceEqDiff, Nat.reducePow, Nat.reduceLT, Nat.reduceLeDiff, reduceIte, if_true, if_false, IntKind.min, IntKind.max, IntKind.bits, IntKind.signed, Int.reduceLE, Int.reduceNeg, Int.reducePow, Int.reduceSub, and_self, Bool.false_eq_true, Nat.reduceSub]; rfl)
      · first | exact hix1 _ _ | exact hix2 _ _ | (simp (disch := omega) only [go_sem, i64_of, u32_of, u64_of, Nat.reduceLT, Nat.reduceLeDiff, Nat.reduceEqDiff, Nat.reduceAdd, Nat.reduceSub, Nat.reduceMul, Nat.reducePow, Nat.reduceBEq, Int.reduceLE, Int.reduceLT, Int.reduceToNat, Int.reduceEq, Int.reduceNeg, reduceIte, reduceCtorEq, m1, a1, a2, a3]; rfl)
      · (simp (disch := omega) only [go_sem, i64_of, u32_of, u64_of, Nat.reduceLT, Nat.reduceLeDiff, Nat.reduceEqDiff, Nat.reduceAdd, Nat.reduceSub, Nat.reduceMul, Nat.reducePow, Nat.reduceBEq, Int.reduceLE, Int.reduceLT, Int.reduceToNat, Int.reduceEq, Int.reduceNeg, reduceIte, reduceCtorEq, m1, a1, a2, a3]; rfl)
      · (simp only [pb, Nat.reduceLT, Nat.reduceAdd, reduceIte]; rfl)
      · rfl)
   | (apply RunD.call rfl; · rfl
      · (simp only [opsOf, valsOf, valOf, lkp, ofConst, ofCell, Array.toList, Option.toList, List.map_cons, List.map_nil, List.cons_append, List.nil_append, List.append_nil, Nat.reduceEqDiff, Nat.reducePow, Nat.reduceLT, Nat.reduceLeDiff, reduceIte, if_true, if_false, IntKind.min, IntKind.max, IntKind.bits, IntKind.signed, Int.reduceLE, Int.reduceNeg, Int.reducePow, Int.reduceSub, and_self, Bool.false_eq_true, Nat.reduceSub]; rfl)
      · first | rfl | (simp only [List.cons_append, List.nil_append, V.hfL, V.hf, Bool.true_and]; assumption)
      · (first | (simp only [cnlL, cnl, List.append_nil, List.cons_append, List.nil_append]; first | exact cd') | (first | exact cd'))
      · rfl
      · (simp only [pb, Nat.reduceLT, Nat.reduceAdd, reduceIte]; rfl)
      · rfl)
   | (apply RunD.skip; · rfl
      · (simp only [pb, Nat.reduceLT, Nat.reduceAdd, reduceIte]; rfl)
      · rfl))
    exact RunD.nil
  · repeat (first | exact Keep.nil | (apply Keep.take; · rfl) | (apply Keep.drop; · rfl))
  · kernel_rfl
  refine AX.sregAV [6] (hq := ?_)
  refine AX.ret (And.intro (Or.inl rfl) ?_)
  exact Done.cell rfl rfl

end Go.Proofs.Ytepkjfnffbdcoaa
