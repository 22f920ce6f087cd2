/- Statements about chains: ChainLong. -/
import Derived.Test.YtepkjfnffbdcoaaHL
set_option linter.unusedVariables false
set_option maxRecDepth 20000
set_option linter.unusedSimpArgs false
namespace Go.Proofs.Ytepkjfnffbdcoaa
open Go Go.Proofs.Ytepkjfnffbdcoaa.Lift
attribute [local irreducible] Lift.PCall Lift.HCall

/-- 1/2 to the power of a number. -/
def halfP : Nat → Rat
  | 0 => 1
  | t + 1 => halfP t * hQ
theorem halfP_eq (t : Nat) : halfP t = rq false 1 (2 ^ t) := by
  induction t with
  | zero => decide +kernel
  | succ t ih =>
    show halfP t * rq false 1 2 = _
    rw [ih, mul_rq, Nat.one_mul, Nat.pow_succ]
    rfl
theorem halfP_pos (t : Nat) : 0 < halfP t := by
  induction t with
  | zero => decide +kernel
  | succ t ih => exact Rat.mul_pos ih hQ_pos
theorem halfP_len {t : Nat} (ht : t ≤ 200) : rL (halfP t) ≤ 7 := by
  rw [halfP_eq]
  refine rL_rq (Nat.le_trans (by rw [show (1 : Nat) = 0 + 1 from rfl]; exact digits_length_le (k := 1) (by decide)) (by decide)) ?_ (by decide)
  refine digits_length_le (k := 7) ?_
  refine Nat.lt_of_le_of_lt (Nat.pow_le_pow_right (by decide) ht) ?_
  decide
theorem atC_one (t : Nat) : atC 1 hA oneV' t 0 = halfP t := by
  induction t with
  | zero => rfl
  | succ t ih =>
    show 0 + atC 1 hA oneV' t 0 * hQ = halfP t * hQ
    rw [ih, Rat.zero_add]
theorem outC_one (t : Nat) : outC 1 hA hA oneV' t 0 = 1 - halfP t := by
  induction t with
  | zero => decide +kernel
  | succ t ih =>
    show outC 1 hA hA oneV' t 0 + (0 + atC 1 hA oneV' t 0 * hQ) = 1 - halfP t * hQ
    rw [ih, atC_one, Rat.zero_add]
    have h := hQ_two
    have h2 : halfP t * hQ + halfP t * hQ = halfP t := by rw [← Rat.mul_add, h, Rat.mul_one]
    grind
theorem outC_len {t : Nat} (ht : t ≤ 200) : rL (outC 1 hA hA oneV' t 0) ≤ 8 := by
  rw [outC_one, Rat.sub_eq_add_neg]
  exact rL_one _ (by rw [rL_neg]; exact halfP_len ht) (by decide)
theorem lt1 {i : Nat} (h : i < 1) : i = 0 := by omega

set_option maxHeartbeats 8000000 in
theorem chainLong_ok (z : Int) (hz : -9223372036854775808 ≤ z ∧ z ≤ 9223372036854775807) : PCall Try.prog 3 [.i .i64 z] (.b true) [] := by
  obtain ⟨r, hr⟩ : ∃ r, Int.tmod z 201 = r := ⟨_, rfl⟩
  have hrb : -201 < r ∧ r < 201 := by
    rw [← hr]
    exact ⟨Int.lt_tmod_of_pos z (by decide), Int.tmod_lt_of_pos z (by decide)⟩
  obtain ⟨t, ht, htb⟩ : ∃ t : Nat, Int.tmod (r + 200 + 1) 201 = (t : Int) ∧ t ≤ 200 := by
    have h1 := Int.tmod_nonneg (a := r + 200 + 1) 201 (by omega)
    have h2 := Int.tmod_lt_of_pos (r + 200 + 1) (b := 201) (by decide)
    exact ⟨(Int.tmod (r + 200 + 1) 201).toNat, by omega, by omega⟩
  have c1 := lone_ok
  have c2 := pone_ok
  have c3 := pmake_ok 1 2 (by decide) (by decide)
  rw [ofV_half] at c3
  have cmul : ∀ j, j < t → PCall Try.prog 6 [.agg [.b (decide ((halfP j).num < 0)), dg (digits (halfP j).num.natAbs), dg (digits (halfP j).den)], .agg [.b (decide (hQ.num < 0)), dg (digits hQ.num.natAbs), dg (digits hQ.den)]] (.agg [.b (decide ((halfP (j + 1)).num < 0)), dg (digits (halfP (j + 1)).num.natAbs), dg (digits (halfP (j + 1)).den)]) [] := fun j hj =>
    pmul_ok (L := 7) (IsQ.of (halfP_len (by omega))) (IsQ.of (Nat.le_trans rL_hQ (by decide))) (by decide) (by decide)
  have ca : PCall Try.prog 7 [cV 1 1 hA hA, .sl [rV 1], .i .i64 t] (.tup [.sl [rV (atC 1 hA oneV' t 0)], .sl [rV (outC 1 hA hA oneV' t 0)], .i .i64 0]) [] :=
    after_ok 1 1 1 8 t (by decide) (by decide) hA hA one_isC (fun _ _ _ _ => rL_hQ) (fun _ _ _ _ => rL_hQ) (Nat.le_refl _) (by decide) oneV' (fun _ _ => by show (0 : Rat) ≤ 1; decide) htb
      (fun j hj i hi => by rw [lt1 hi, atC_one]; exact Nat.le_trans (halfP_len (by omega)) (by decide)) (fun j hj i hi => by rw [lt1 hi]; exact outC_len (by omega)) (by decide) (by decide)
  rw [atC_one, outC_one] at ca
  have ol : rL (1 - halfP t) ≤ 8 := by rw [← outC_one]; exact outC_len htb
  have cs1 := c20same_ok [halfP t] [halfP t] 8 (fun q hq => by rw [List.mem_singleton.1 hq]; exact Nat.le_trans (halfP_len htb) (by decide)) (fun q hq => by rw [List.mem_singleton.1 hq]; exact Nat.le_trans (halfP_len htb) (by decide)) (by decide) (by decide) (by simp) (by simp)
  have cs2 := c20same_ok [1 - halfP t] [1 - halfP t] 8 (fun q hq => by rw [List.mem_singleton.1 hq]; exact ol) (fun q hq => by rw [List.mem_singleton.1 hq]; exact ol) (by decide) (by decide) (by simp) (by simp)
  rw [decide_eq_true rfl] at cs1 cs2
  have csub : PCall Try.prog 10 [rV 1, .agg [.b (decide ((halfP t).num < 0)), dg (digits (halfP t).num.natAbs), dg (digits (halfP t).den)]] (rV (1 - halfP t)) [] := psub_ok (L := 7) (IsQ.of (Nat.le_trans rL1 (by decide))) (IsQ.of (halfP_len htb)) (by decide) (by decide)
  have cal := lalive_ok
  refine PCall.of_ax Try.call3 Try.func3 rfl (by simp [Try.ntmps3]) fun O w0 => ?_
  simp only [Try.ntmps3, Try.results3, argFr]
  have hp0 : halfP 0 = 1 := rfl
  generalize 1 - halfP t = y at *
  generalize (mcells 1 hA (1 * 1)).map rV = Hc at *
  generalize hQ = h at *
  generalize (1 : Rat) = one at *
  refine AX.sregAV [0] (hq := ?_)
  refine AX.sregWV [0] (And.intro @hr (And.intro @ht True.intro)) True.intro (hq := ?_)
  apply AX.sreg [0, 3] (by simp only [pq]; rfl)
  · repeat (first
   | (apply RunO.op rfl; · rfl
      · (simp only [opsOf, valsOf, valOf, lkp, ofConst, ofCell, Array.toList, Option.toList, List.map_cons, List.map_nil, List.cons_append, List.nil_append, List.append_nil, Nat.reduceEqDiff, Nat.reducePow, Nat.reduceLT, Nat.reduceLeDiff, reduceIte, if_true, if_false, IntKind.min, IntKind.max, IntKind.bits, IntKind.signed, Int.reduceLE, Int.reduceNeg, Int.reducePow, Int.reduceSub, and_self, Bool.false_eq_true, Nat.reduceSub]; rfl)
      iterate 2 (· (simp (disch := omega) only [go_sem, i64_of, u32_of, u64_of, Nat.reduceLT, Nat.reduceLeDiff, Nat.reduceEqDiff, Nat.reduceAdd, Nat.reduceSub, Nat.reduceMul, Nat.reducePow, Nat.reduceBEq, Int.reduceLE, Int.reduceLT, Int.reduceToNat, Int.reduceEq, Int.reduceNeg, reduceIte, reduceCtorEq, List.set_cons_zero, List.set_cons_succ]; rfl))
      · (simp only [pb, Nat.reduceLT, Nat.reduceAdd, reduceIte]; rfl))
   | (apply RunO.call rfl; · rfl
      · (simp only [opsOf, valsOf, valOf, lkp, ofConst, ofCell, Array.toList, Option.toList, List.map_cons, List.map_nil, List.cons_append, List.nil_append, List.append_nil, Nat.reduceEqDiff, Nat.reducePow, Nat.reduceLT, Nat.reduceLeDiff, reduceIte, if_true, if_false, IntKind.min, IntKind.max, IntKind.bits, IntKind.signed, Int.reduceLE, Int.reduceNeg, Int.reducePow, Int.reduceSub, and_self, Bool.false_eq_true, Nat.reduceSub]; rfl)
      · (simp (disch := omega) only [go_sem, i64_of, u32_of, u64_of, Nat.reduceLT, Nat.reduceLeDiff, Nat.reduceEqDiff, Nat.reduceAdd, Nat.reduceSub, Nat.reduceMul, Nat.reducePow, Nat.reduceBEq, Int.reduceLE, Int.reduceLT, Int.reduceToNat, Int.reduceEq, Int.reduceNeg, reduceIte, reduceCtorEq, List.set_cons_zero, List.set_cons_succ]; rfl)
      · rfl
      · (first | exact c3)
      · (simp (disch := omega) only [go_sem, i64_of, u32_of, u64_of, Nat.reduceLT, Nat.reduceLeDiff, Nat.reduceEqDiff, Nat.reduceAdd, Nat.reduceSub, Nat.reduceMul, Nat.reducePow, Nat.reduceBEq, Int.reduceLE, Int.reduceLT, Int.reduceToNat, Int.reduceEq, Int.reduceNeg, reduceIte, reduceCtorEq, List.set_cons_zero, List.set_cons_succ]; rfl)
      · (simp only [pb, Nat.reduceLT, Nat.reduceAdd, reduceIte]; rfl))
   | (apply RunO.skip; · rfl
      · (simp only [pb, Nat.reduceLT, Nat.reduceAdd, reduceIte]; rfl)))
    exact RunO.nil
  · repeat (first | exact Keep.nil | (apply Keep.take; · rfl) | (apply Keep.drop; · rfl))
  apply AX.sreg [0, 3, 5] (by simp only [pq]; rfl)
  · repeat (first
   | (apply RunO.op rfl; · rfl
      · (simp only [opsOf, valsOf, valOf, lkp, ofConst, ofCell, Array.toList, Option.toList, List.map_cons, List.map_nil, List.cons_append, List.nil_append, List.append_nil, Nat.reduceEqDiff, Nat.reducePow, Nat.reduceLT, Nat.reduceLeDiff, reduceIte, if_true, if_false, IntKind.min, IntKind.max, IntKind.bits, IntKind.signed, Int.reduceLE, Int.reduceNeg, Int.reducePow, Int.reduceSub, and_self, Bool.false_eq_true, Nat.reduceSub]; rfl)
      iterate 2 (· (simp (disch := omega) only [go_sem, i64_of, u32_of, u64_of, Nat.reduceLT, Nat.reduceLeDiff, Nat.reduceEqDiff, Nat.reduceAdd, Nat.reduceSub, Nat.reduceMul, Nat.reducePow, Nat.reduceBEq, Int.reduceLE, Int.reduceLT, Int.reduceToNat, Int.reduceEq, Int.reduceNeg, reduceIte, reduceCtorEq, List.set_cons_zero, List.set_cons_succ]; rfl))
      · (simp only [pb, Nat.reduceLT, Nat.reduceAdd, reduceIte]; rfl))
   | (apply RunO.call rfl; · rfl
      · (simp only [opsOf, valsOf, valOf, lkp, ofConst, ofCell, Array.toList, Option.toList, List.map_cons, List.map_nil, List.cons_append, List.nil_append, List.append_nil, Nat.reduceEqDiff, Nat.reducePow, Nat.reduceLT, Nat.reduceLeDiff, reduceIte, if_true, if_false, IntKind.min, IntKind.max, IntKind.bits, IntKind.signed, Int.reduceLE, Int.reduceNeg, Int.reducePow, Int.reduceSub, and_self, Bool.false_eq_true, Nat.reduceSub]; rfl)
      · (simp (disch := omega) only [go_sem, i64_of, u32_of, u64_of, Nat.reduceLT, Nat.reduceLeDiff, Nat.reduceEqDiff, Nat.reduceAdd, Nat.reduceSub, Nat.reduceMul, Nat.reducePow, Nat.reduceBEq, Int.reduceLE, Int.reduceLT, Int.reduceToNat, Int.reduceEq, Int.reduceNeg, reduceIte, reduceCtorEq, List.set_cons_zero, List.set_cons_succ]; rfl)
      · rfl
      · (first | exact c2)
      · (simp (disch := omega) only [go_sem, i64_of, u32_of, u64_of, Nat.reduceLT, Nat.reduceLeDiff, Nat.reduceEqDiff, Nat.reduceAdd, Nat.reduceSub, Nat.reduceMul, Nat.reducePow, Nat.reduceBEq, Int.reduceLE, Int.reduceLT, Int.reduceToNat, Int.reduceEq, Int.reduceNeg, reduceIte, reduceCtorEq, List.set_cons_zero, List.set_cons_succ]; rfl)
      · (simp only [pb, Nat.reduceLT, Nat.reduceAdd, reduceIte]; rfl))
   | (apply RunO.skip; · rfl
      · (simp only [pb, Nat.reduceLT, Nat.reduceAdd, reduceIte]; rfl)))
    exact RunO.nil
  · repeat (first | exact Keep.nil | (apply Keep.take; · rfl) | (apply Keep.drop; · rfl))
  refine AX.seq ?_
  refine AX.sregAV [0, 3, 5, 6] (hq := ?_)
  refine AX.weaken id (st' := ⟨[(6, .i .i64 (0 : Nat)), (5, .ptr 1 0), (3, .ptr 0 0), (0, .i .i64 t)], [(1, ⟨25, [.b (decide ((halfP 0).num < 0)), dg (digits (halfP 0).num.natAbs), dg (digits (halfP 0).den)]⟩), (0, ⟨25, [.b (decide (h.num < 0)), dg (digits h.num.natAbs), dg (digits h.den)]⟩)], 2⟩)
    ⟨by simp only [ren_q, renL_u, ren_z, ren_bl, ren_il, lt_q, ltL_u, lt_z, lt_bl, lt_il, LeFr, LeHp, lkp, V.ren, V.renL, Row.ren, V.lt, V.ltL, renL_u, ltL_u, List.length_append, List.length_cons, List.length_nil, List.length_set, id_eq, Option.some.injEq, V.i.injEq, V.b.injEq, V.own.injEq, Row.mk.injEq, decide_true, decide_eq_true_eq, true_and, and_true, Bool.and_true, Bool.true_and, if_true, if_false, and_self, Nat.reduceLT, Nat.reduceLeDiff, Nat.reduceEqDiff, Nat.reduceAdd, Nat.reduceSub, Nat.reduceMul, Nat.reducePow, Nat.reduceBEq, Int.reduceLE, Int.reduceLT, Int.reduceToNat, Int.reduceEq, Int.reduceNeg, reduceIte, reduceCtorEq] <;> (first | done | trivial | (and_intros <;> first | trivial | omega | (rw [hp0]))), by simp only [ren_q, renL_u, ren_z, ren_bl, ren_il, lt_q, ltL_u, lt_z, lt_bl, lt_il, LeFr, LeHp, lkp, V.ren, V.renL, Row.ren, V.lt, V.ltL, renL_u, ltL_u, List.length_append, List.length_cons, List.length_nil, List.length_set, id_eq, Option.some.injEq, V.i.injEq, V.b.injEq, V.own.injEq, Row.mk.injEq, decide_true, decide_eq_true_eq, true_and, and_true, Bool.and_true, Bool.true_and, if_true, if_false, and_self, Nat.reduceLT, Nat.reduceLeDiff, Nat.reduceEqDiff, Nat.reduceAdd, Nat.reduceSub, Nat.reduceMul, Nat.reducePow, Nat.reduceBEq, Int.reduceLE, Int.reduceLT, Int.reduceToNat, Int.reduceEq, Int.reduceNeg, reduceIte, reduceCtorEq] <;> (first | done | trivial | (and_intros <;> first | trivial | omega | (rw [hp0]))), by simp [Apart], by first | exact Nat.zero_le _ | simp, by intro n hn; first | rfl | exact absurd hn (Nat.not_lt_zero _) | (have h0 : n = 0 := Nat.lt_one_iff.1 hn; subst h0; rfl)⟩
    ?_
  refine AX.block ?_
  refine AX.loop (fun N st => ∃ j : Nat, j ≤ t ∧ N = t - j ∧ st = ⟨[(6, .i .i64 j), (5, .ptr 1 0), (3, .ptr 0 0), (0, .i .i64 t)], [(1, ⟨25, [.b (decide ((halfP j).num < 0)), dg (digits (halfP j).num.natAbs), dg (digits (halfP j).den)]⟩), (0, ⟨25, [.b (decide (h.num < 0)), dg (digits h.num.natAbs), dg (digits h.den)]⟩)], 2⟩) t ⟨0, Nat.zero_le _, rfl, rfl⟩ ?_
  rintro N st ⟨j, hj, rfl, rfl⟩
  by_cases h1 : j < t
  · have cm := cmul j h1
    obtain ⟨a, ha⟩ : ∃ a, halfP (j + 1) = a := ⟨_, rfl⟩
    rw [ha] at cm
    generalize halfP j = b at *
    refine AX.seq ?_
    refine AX.sregAV [0, 3, 5, 6, 22] (hq := ?_)
    refine AX.condT (h := ?_)
    refine AX.keepA [0, 3, 5, 6] (h := ?_)
    refine AX.skip ?_
    try simp only [thenS_normal, thenS_ret, thenS_exit, blockS_normal, blockS_ret, blockS_exit, backS_ret, backS_exit, if_true]
    refine AX.seq ?_
    refine AX.block ?_
    apply AX.reg [0, 3, 5, 6] (by simp only [pq]; rfl)
    · repeat (first
     | (apply RunO.op rfl; · rfl
        · (simp only [opsOf, valsOf, valOf, lkp, ofConst, ofCell, Array.toList, Option.toList, List.map_cons, List.map_nil, List.cons_append, List.nil_append, List.append_nil, Nat.reduceEqDiff, Nat.reducePow, Nat.reduceLT, Nat.reduceLeDiff, reduceIte, if_true, if_false, IntKind.min, IntKind.max, IntKind.bits, IntKind.signed, Int.reduceLE, Int.reduceNeg, Int.reducePow, Int.reduceSub, and_self, Bool.false_eq_true, Nat.reduceSub]; rfl)
        iterate 2 (· (simp (disch := omega) only [go_sem, i64_of, u32_of, u64_of, Nat.reduceLT, Nat.reduceLeDiff, Nat.reduceEqDiff, Nat.reduceAdd, Nat.reduceSub, Nat.reduceMul, Nat.reducePow, Nat.reduceBEq, Int.reduceLE, Int.reduceLT, Int.reduceToNat, Int.reduceEq, Int.reduceNeg, reduceIte, reduceCtorEq, List.set_cons_zero, List.set_cons_succ]; rfl))
        · (simp only [pb, Nat.reduceLT, Nat.reduceAdd, reduceIte]; rfl))
     | (apply RunO.call rfl; · rfl
        · (simp only [opsOf, valsOf, valOf, lkp, ofConst, ofCell, Array.toList, Option.toList, List.map_cons, List.map_nil, List.cons_append, List.nil_append, List.append_nil, Nat.reduceEqDiff, Nat.reducePow, Nat.reduceLT, Nat.reduceLeDiff, reduceIte, if_true, if_false, IntKind.min, IntKind.max, IntKind.bits, IntKind.signed, Int.reduceLE, Int.reduceNeg, Int.reducePow, Int.reduceSub, and_self, Bool.false_eq_true, Nat.reduceSub]; rfl)
        · (simp (disch := omega) only [go_sem, i64_of, u32_of, u64_of, Nat.reduceLT, Nat.reduceLeDiff, Nat.reduceEqDiff, Nat.reduceAdd, Nat.reduceSub, Nat.reduceMul, Nat.reducePow, Nat.reduceBEq, Int.reduceLE, Int.reduceLT, Int.reduceToNat, Int.reduceEq, Int.reduceNeg, reduceIte, reduceCtorEq, List.set_cons_zero, List.set_cons_succ]; rfl)
        · rfl
        · (first | exact cm)
        · (simp (disch := omega) only [go_sem, i64_of, u32_of, u64_of, Nat.reduceLT, Nat.reduceLeDiff, Nat.reduceEqDiff, Nat.reduceAdd, Nat.reduceSub, Nat.reduceMul, Nat.reducePow, Nat.reduceBEq, Int.reduceLE, Int.reduceLT, Int.reduceToNat, Int.reduceEq, Int.reduceNeg, reduceIte, reduceCtorEq, List.set_cons_zero, List.set_cons_succ]; rfl)
        · (simp only [pb, Nat.reduceLT, Nat.reduceAdd, reduceIte]; rfl))
     | (apply RunO.skip; · rfl
        · (simp only [pb, Nat.reduceLT, Nat.reduceAdd, reduceIte]; rfl)))
      exact RunO.nil
    · repeat (first | exact Keep.nil | (apply Keep.take; · rfl) | (apply Keep.drop; · rfl))
    try simp only [thenS_normal, thenS_ret, thenS_exit, blockS_normal, blockS_ret, blockS_exit, backS_ret, backS_exit, if_true]
    refine AX.regWV [0, 3, 5, 6] (And.intro @lit_add True.intro) True.intro (hq := ?_)
    try simp only [thenS_normal, thenS_ret, thenS_exit, blockS_normal, blockS_ret, blockS_exit, backS_ret, backS_exit, if_true]
    refine ⟨_, _, id, ?_,
      ⟨by simp only [ren_q, renL_u, ren_z, ren_bl, ren_il, lt_q, ltL_u, lt_z, lt_bl, lt_il, LeFr, LeHp, lkp, V.ren, V.renL, Row.ren, V.lt, V.ltL, renL_u, ltL_u, List.length_append, List.length_cons, List.length_nil, List.length_set, id_eq, Option.some.injEq, V.i.injEq, V.b.injEq, V.own.injEq, Row.mk.injEq, decide_true, decide_eq_true_eq, true_and, and_true, Bool.and_true, Bool.true_and, if_true, if_false, and_self, Nat.reduceLT, Nat.reduceLeDiff, Nat.reduceEqDiff, Nat.reduceAdd, Nat.reduceSub, Nat.reduceMul, Nat.reducePow, Nat.reduceBEq, Int.reduceLE, Int.reduceLT, Int.reduceToNat, Int.reduceEq, Int.reduceNeg, reduceIte, reduceCtorEq] <;> (first | done | trivial | (and_intros <;> first | trivial | omega | (rw [ha]))), by simp only [ren_q, renL_u, ren_z, ren_bl, ren_il, lt_q, ltL_u, lt_z, lt_bl, lt_il, LeFr, LeHp, lkp, V.ren, V.renL, Row.ren, V.lt, V.ltL, renL_u, ltL_u, List.length_append, List.length_cons, List.length_nil, List.length_set, id_eq, Option.some.injEq, V.i.injEq, V.b.injEq, V.own.injEq, Row.mk.injEq, decide_true, decide_eq_true_eq, true_and, and_true, Bool.and_true, Bool.true_and, if_true, if_false, and_self, Nat.reduceLT, Nat.reduceLeDiff, Nat.reduceEqDiff, Nat.reduceAdd, Nat.reduceSub, Nat.reduceMul, Nat.reducePow, Nat.reduceBEq, Int.reduceLE, Int.reduceLT, Int.reduceToNat, Int.reduceEq, Int.reduceNeg, reduceIte, reduceCtorEq] <;> (first | done | trivial | (and_intros <;> first | trivial | omega | (rw [ha]))), by simp [Apart], by first | exact Nat.zero_le _ | simp, by intro n hn; first | rfl | exact absurd hn (Nat.not_lt_zero _) | (have h0 : n = 0 := Nat.lt_one_iff.1 hn; subst h0; rfl)⟩
      , ⟨j + 1, by omega, rfl, rfl⟩⟩
    omega
  · have e : j = t := by omega
    subst e
    generalize halfP j = x at *
    refine AX.seq ?_
    refine AX.sregAV [0, 3, 5, 6, 22] (hq := ?_)
    refine AX.condF (h := ?_)
    refine AX.exit ?_
    try simp only [thenS_normal, thenS_ret, thenS_exit, blockS_normal, blockS_ret, blockS_exit, backS_ret, backS_exit, if_true]
    apply AX.sreg [5, 7, 8, 9] (by simp only [pq]; rfl)
    · repeat (first
     | (apply RunO.op rfl; · rfl
        · (simp only [opsOf, valsOf, valOf, lkp, ofConst, ofCell, Array.toList, Option.toList, List.map_cons, List.map_nil, List.cons_append, List.nil_append, List.append_nil, Nat.reduceEqDiff, Nat.reducePow, Nat.reduceLT, Nat.reduceLeDiff, reduceIte, if_true, if_false, IntKind.min, IntKind.max, IntKind.bits, IntKind.signed, Int.reduceLE, Int.reduceNeg, Int.reducePow, Int.reduceSub, and_self, Bool.false_eq_true, Nat.reduceSub]; rfl)
        iterate 2 (· (simp (disch := omega) only [go_sem, i64_of, u32_of, u64_of, Nat.reduceLT, Nat.reduceLeDiff, Nat.reduceEqDiff, Nat.reduceAdd, Nat.reduceSub, Nat.reduceMul, Nat.reducePow, Nat.reduceBEq, Int.reduceLE, Int.reduceLT, Int.reduceToNat, Int.reduceEq, Int.reduceNeg, reduceIte, reduceCtorEq, zerosV_1, List.take_succ_cons, List.take_zero, List.set_cons_zero, List.set_cons_succ, chunks31]; rfl))
        · (simp only [pb, Nat.reduceLT, Nat.reduceAdd, reduceIte]; rfl))
     | (apply RunO.call rfl; · rfl
        · (simp only [opsOf, valsOf, valOf, lkp, ofConst, ofCell, Array.toList, Option.toList, List.map_cons, List.map_nil, List.cons_append, List.nil_append, List.append_nil, Nat.reduceEqDiff, Nat.reducePow, Nat.reduceLT, Nat.reduceLeDiff, reduceIte, if_true, if_false, IntKind.min, IntKind.max, IntKind.bits, IntKind.signed, Int.reduceLE, Int.reduceNeg, Int.reducePow, Int.reduceSub, and_self, Bool.false_eq_true, Nat.reduceSub]; rfl)
        · (simp (disch := omega) only [go_sem, i64_of, u32_of, u64_of, Nat.reduceLT, Nat.reduceLeDiff, Nat.reduceEqDiff, Nat.reduceAdd, Nat.reduceSub, Nat.reduceMul, Nat.reducePow, Nat.reduceBEq, Int.reduceLE, Int.reduceLT, Int.reduceToNat, Int.reduceEq, Int.reduceNeg, reduceIte, reduceCtorEq, zerosV_1, List.take_succ_cons, List.take_zero, List.set_cons_zero, List.set_cons_succ, chunks31]; rfl)
        · rfl
        · (first | exact c1 | exact c2 | exact ca)
        · (simp (disch := omega) only [go_sem, i64_of, u32_of, u64_of, Nat.reduceLT, Nat.reduceLeDiff, Nat.reduceEqDiff, Nat.reduceAdd, Nat.reduceSub, Nat.reduceMul, Nat.reducePow, Nat.reduceBEq, Int.reduceLE, Int.reduceLT, Int.reduceToNat, Int.reduceEq, Int.reduceNeg, reduceIte, reduceCtorEq, zerosV_1, List.take_succ_cons, List.take_zero, List.set_cons_zero, List.set_cons_succ, chunks31]; rfl)
        · (simp only [pb, Nat.reduceLT, Nat.reduceAdd, reduceIte]; rfl))
     | (apply RunO.skip; · rfl
        · (simp only [pb, Nat.reduceLT, Nat.reduceAdd, reduceIte]; rfl)))
      exact RunO.nil
    · repeat (first | exact Keep.nil | (apply Keep.take; · rfl) | (apply Keep.drop; · rfl))
    apply AX.sdreg [2] (by kernel_rfl) (by simp only [pq]; rfl)
    · repeat (first
     | (apply RunD.mkS (o := ⟨some 42, _, _⟩) (v := (.sl [rV x])) rfl; · rfl
        · (simp only [opsOf, valsOf, valOf, lkp, ofConst, ofCell, Array.toList, Option.toList, List.map_cons, List.map_nil, List.cons_append, List.nil_append, List.append_nil, Nat.reduceEqDiff, Nat.reducePow, Nat.reduceLT, Nat.reduceLeDiff, reduceIte, if_true, if_false, IntKind.min, IntKind.max, IntKind.bits, IntKind.signed, Int.reduceLE, Int.reduceNeg, Int.reducePow, Int.reduceSub, and_self, Bool.false_eq_true, Nat.reduceSub]; rfl)
        · (simp (disch := omega) only [go_sem, i64_of, u32_of, u64_of, Nat.reduceLT, Nat.reduceLeDiff, Nat.reduceEqDiff, Nat.reduceAdd, Nat.reduceSub, Nat.reduceMul, Nat.reducePow, Nat.reduceBEq, Int.reduceLE, Int.reduceLT, Int.reduceToNat, Int.reduceEq, Int.reduceNeg, reduceIte, reduceCtorEq]; rfl)
        · rfl
        · rfl
        · kernel_rfl
        · kernel_rfl
        · (simp only [pb, Nat.reduceLT, Nat.reduceAdd, reduceIte]; rfl)
        · rfl)
     | (apply RunD.mkS (o := ⟨some 50, _, _⟩) (v := (.sl [rV y])) rfl; · rfl
        · (simp only [opsOf, valsOf, valOf, lkp, ofConst, ofCell, Array.toList, Option.toList, List.map_cons, List.map_nil, List.cons_append, List.nil_append, List.append_nil, Nat.reduceEqDiff, Nat.reducePow, Nat.reduceLT, Nat.reduceLeDiff, reduceIte, if_true, if_false, IntKind.min, IntKind.max, IntKind.bits, IntKind.signed, Int.reduceLE, Int.reduceNeg, Int.reducePow, Int.reduceSub, and_self, Bool.false_eq_true, Nat.reduceSub]; rfl)
        · (simp (disch := omega) only [go_sem, i64_of, u32_of, u64_of, Nat.reduceLT, Nat.reduceLeDiff, Nat.reduceEqDiff, Nat.reduceAdd, Nat.reduceSub, Nat.reduceMul, Nat.reducePow, Nat.reduceBEq, Int.reduceLE, Int.reduceLT, Int.reduceToNat, Int.reduceEq, Int.reduceNeg, reduceIte, reduceCtorEq]; rfl)
        · rfl
        · rfl
        · kernel_rfl
        · kernel_rfl
        · (simp only [pb, Nat.reduceLT, Nat.reduceAdd, reduceIte]; rfl)
        · rfl)
     | (apply RunD.op rfl; · rfl
        · (simp only [opsOf, valsOf, valOf, lkp, ofConst, ofCell, Array.toList, Option.toList, List.map_cons, List.map_nil, List.cons_append, List.nil_append, List.append_nil, Nat.reduceEqDiff, Nat.reducePow, Nat.reduceLT, Nat.reduceLeDiff, reduceIte, if_true, if_false, IntKind.min, IntKind.max, IntKind.bits, IntKind.signed, Int.reduceLE, Int.reduceNeg, Int.reducePow, Int.reduceSub, and_self, Bool.false_eq_true, Nat.reduceSub]; rfl)
        iterate 2 (· (simp (disch := omega) only [go_sem, i64_of, u32_of, u64_of, Nat.reduceLT, Nat.reduceLeDiff, Nat.reduceEqDiff, Nat.reduceAdd, Nat.reduceSub, Nat.reduceMul, Nat.reducePow, Nat.reduceBEq, Int.reduceLE, Int.reduceLT, Int.reduceToNat, Int.reduceEq, Int.reduceNeg, reduceIte, reduceCtorEq]; rfl))
        · (simp only [pb, Nat.reduceLT, Nat.reduceAdd, reduceIte]; rfl)
        · rfl)
     | (apply RunD.call rfl; · rfl
        · (simp only [opsOf, valsOf, valOf, lkp, ofConst, ofCell, Array.toList, Option.toList, List.map_cons, List.map_nil, List.cons_append, List.nil_append, List.append_nil, Nat.reduceEqDiff, Nat.reducePow, Nat.reduceLT, Nat.reduceLeDiff, reduceIte, if_true, if_false, IntKind.min, IntKind.max, IntKind.bits, IntKind.signed, Int.reduceLE, Int.reduceNeg, Int.reducePow, Int.reduceSub, and_self, Bool.false_eq_true, Nat.reduceSub]; rfl)
        · first | rfl | (simp only [List.cons_append, List.nil_append, V.hfL, V.hf, Bool.true_and]; assumption)
        · (first | (simp only [cnlL, cnl, List.append_nil, List.cons_append, List.nil_append]; first | exact cs1 | exact c2 | exact csub | exact cs2 | exact cal) | (first | exact cs1 | exact c2 | exact csub | exact cs2 | exact cal))
        · rfl
        · (simp only [pb, Nat.reduceLT, Nat.reduceAdd, reduceIte]; rfl)
        · rfl)
     | (apply RunD.skip; · rfl
        · (simp only [pb, Nat.reduceLT, Nat.reduceAdd, reduceIte]; rfl)
        · rfl))
      exact RunD.nil
    · repeat (first | exact Keep.nil | (apply Keep.take; · rfl) | (apply Keep.drop; · rfl))
    · kernel_rfl
    refine AX.ret (And.intro (Or.inl rfl) ?_)
    exact Done.one rfl rfl rfl rfl

end Go.Proofs.Ytepkjfnffbdcoaa
