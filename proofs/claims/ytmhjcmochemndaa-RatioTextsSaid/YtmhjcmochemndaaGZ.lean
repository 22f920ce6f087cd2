/- The decimal text of a number, the reference's. -/
import Derived.Test.YtmhjcmochemndaaGN
import Derived.Test.YtmhjcmochemndaaGX
import Derived.Test.YtmhjcmochemndaaGO
set_option linter.unusedVariables false
set_option linter.unusedSimpArgs false
namespace Go.Proofs.Ytmhjcmochemndaa
open Go Go.Proofs.Ytmhjcmochemndaa.Lift
attribute [local irreducible] Lift.PCall Lift.HCall

theorem rshort_n (m d : Nat) (hm : (digits m).length < 2 ^ 40) (h0 : 0 < d) (hdB : d < 4294967296) : PCall Try.prog 89 [nv m, .i .u64 d] (.tup [nv (m / d), .i .u64 (m % d : Nat)]) [] := by
  have := rshort_ok (digits m) d (Dg_digits _) hm h0 hdB
  rwa [val_digits] at this

set_option maxHeartbeats 1000000 in
theorem rtext_ok (a : List Nat) (ha : Dg a) (hl : a.length < 2 ^ 36) : PCall Try.prog 79 [dg a] (.s (txt (val a))) [] := by
  refine PCall.of_ax Try.call79 Try.func79 rfl (by simp [Try.ntmps79]) fun O w => ?_
  simp only [Try.ntmps79, Try.results79, argFr]
  have c1 := rntrim_ok a ha (by omega)
  have hma := digits_length_val ha
  generalize val a = m at *
  have hD := decr_digits m
  generalize hDD : (decr m).length = D at *
  refine AX.sregA [0] (hq := ?_)
  refine AX.sregC [0] (And.intro c1 True.intro) (hq := ?_)
  refine AX.seq ?_
  by_cases h0 : (digits m).length = 0
  · have hm0 := digits_len_zero.1 h0
    subst hm0
    refine AX.sregA [0, 13] (hq := ?_)
    refine AX.condT (h := ?_)
    refine AX.sregA [2] (hq := ?_)
    refine AX.ret (And.intro (Or.inl rfl) ?_)
    exact Done.one rfl rfl rfl rfl
  have hm0 : m ≠ 0 := fun e => h0 (digits_len_zero.2 e)
  refine AX.sregA [0, 13] (hq := ?_)
  refine AX.condF (h := ?_)
  refine AX.keepA [0] (h := ?_)
  refine AX.skip ?_
  try simp only [thenS_normal, thenS_ret, thenS_exit, blockS_normal, blockS_ret, blockS_exit, backS_ret, backS_exit, if_true]
  refine AX.sregA [0, 3] (hq := ?_)
  refine AX.own0 3 5 1 rfl ?_
  refine AX.keepA [0, 3] (h := ?_)
  refine AX.seq ?_
  refine AX.block ?_
  refine AX.loop (fun N st => ∃ acc : List Nat, acc ++ decr N = decr m ∧ (digits N).length < 2 ^ 36 ∧ st = ⟨[(3, .own 0 0 acc.length 1), (0, nv N)], [(0, ⟨5, acc.map y8⟩)], 1⟩) m ⟨[], rfl, by omega, rfl⟩ ?_
  rintro N st ⟨acc, hacc, hN, rfl⟩
  have hlen := congrArg List.length hacc
  rw [List.length_append, hDD] at hlen
  refine AX.seq ?_
  by_cases hN0 : (digits N).length = 0
  · have := digits_len_zero.1 hN0
    subst this
    rw [decr_zero, List.append_nil] at hacc
    refine AX.sregA [0, 3, 16] (hq := ?_)
    refine AX.condF (h := ?_)
    refine AX.keepA [3] (h := ?_)
    refine AX.exit ?_
    try simp only [thenS_normal, thenS_ret, thenS_exit, blockS_normal, blockS_ret, blockS_exit, backS_ret, backS_exit, if_true]
    have hne : acc.map y8 ≠ [] := by
      rw [hacc, decr_pos hm0]
      simp
    obtain ⟨K, hK⟩ : ∃ K, acc.length = K := ⟨_, rfl⟩
    rw [hK]
    refine AX.sregA [3, 7] (hq := ?_)
    refine AX.seq ?_
    refine AX.sregA [3, 7, 8] (hq := ?_)
    refine AX.block ?_
    refine AX.loop (fun N st => ∃ (i : Nat) (r : List Nat), N = K - i ∧ i ≤ K ∧ r.length = K ∧ (∀ j, j < i → r.getD j 0 = acc.getD (K - 1 - j) 0) ∧ st = ⟨[(8, .i .i64 i), (7, .own 1 0 K 1), (3, .own 0 0 K 1)], [(1, ⟨5, r.map y8⟩), (0, ⟨5, acc.map y8⟩)], 2⟩) K ⟨0, List.replicate K 0, rfl, Nat.zero_le _, by simp, fun j hj => absurd hj (Nat.not_lt_zero j), rfl⟩ ?_
    rintro N st ⟨i, r, rfl, hi, hr, hg, rfl⟩
    refine AX.seq ?_
    by_cases h2 : i < K
    · have e1 : (K : Int) - 1 = ((K - 1 : Nat) : Int) := by omega
      have e2 : ((K - 1 : Nat) : Int) - (i : Int) = ((K - 1 - i : Nat) : Int) := by omega
      refine AX.sregA [3, 7, 8, 51] (hq := ?_)
      refine AX.condT (h := ?_)
      refine AX.keepA [3, 7, 8] (h := ?_)
      refine AX.skip ?_
      try simp only [thenS_normal, thenS_ret, thenS_exit, blockS_normal, blockS_ret, blockS_exit, backS_ret, backS_exit, if_true]
      refine AX.seq ?_
      refine AX.block ?_
      refine AX.regW [3, 7, 8] (And.intro @e1 (And.intro @e2 True.intro)) True.intro (hq := ?_)
      try simp only [thenS_normal, thenS_ret, thenS_exit, blockS_normal, blockS_ret, blockS_exit, backS_ret, backS_exit, if_true]
      refine AX.regW [3, 7, 8] (And.intro @lit_add True.intro) True.intro (hq := ?_)
      try simp only [thenS_normal, thenS_ret, thenS_exit, blockS_normal, blockS_ret, blockS_exit, backS_ret, backS_exit, if_true]
      refine ⟨K - (i + 1), _, id, by omega,
        ⟨by simp only [renL_y, ltL_y, LeFr, LeHp, lkp, V.ren, V.renL, Row.ren, V.lt, V.ltL, renL_u, ltL_u, List.length_append, List.length_cons, List.length_nil, List.length_set, id_eq, Option.some.injEq, V.i.injEq, V.b.injEq, V.own.injEq, Row.mk.injEq, decide_true, decide_eq_true_eq, true_and, and_true, Bool.and_true, Bool.true_and, if_true, if_false, and_self, Nat.reduceLT, Nat.reduceLeDiff, Nat.reduceEqDiff, Nat.reduceAdd, Nat.reduceSub, Nat.reduceMul, Nat.reducePow, Nat.reduceBEq, Int.reduceLE, Int.reduceLT, Int.reduceToNat, Int.reduceEq, Int.reduceNeg, reduceIte, reduceCtorEq] <;> (first | done | trivial | (and_intros <;> first | trivial | omega | assumption)), by simp only [renL_y, ltL_y, LeFr, LeHp, lkp, V.ren, V.renL, Row.ren, V.lt, V.ltL, renL_u, ltL_u, List.length_append, List.length_cons, List.length_nil, List.length_set, id_eq, Option.some.injEq, V.i.injEq, V.b.injEq, V.own.injEq, Row.mk.injEq, decide_true, decide_eq_true_eq, true_and, and_true, Bool.and_true, Bool.true_and, if_true, if_false, and_self, Nat.reduceLT, Nat.reduceLeDiff, Nat.reduceEqDiff, Nat.reduceAdd, Nat.reduceSub, Nat.reduceMul, Nat.reducePow, Nat.reduceBEq, Int.reduceLE, Int.reduceLT, Int.reduceToNat, Int.reduceEq, Int.reduceNeg, reduceIte, reduceCtorEq] <;> (first | done | trivial | (and_intros <;> first | trivial | omega | assumption)), by simp [Apart], by first | exact Nat.zero_le _ | simp, by intro n hn; first | rfl | exact absurd hn (Nat.not_lt_zero _) | (have h0 : n = 0 := Nat.lt_one_iff.1 hn; subst h0; rfl)⟩
        , ⟨i + 1, r.set i (acc.getD (K - 1 - i) 0), rfl, by omega, by simp [hr], ?_, rfl⟩⟩
      intro j hj
      by_cases hji : j = i
      · subst hji
        simp [List.getD_eq_getElem?_getD, show j < r.length by omega]
      · rw [List.getD_eq_getElem?_getD, List.getElem?_set_ne (by omega), ← List.getD_eq_getElem?_getD]
        exact hg j (by omega)
    · refine AX.sregA [3, 7, 8, 51] (hq := ?_)
      refine AX.condF (h := ?_)
      refine AX.keepA [7] (h := ?_)
      refine AX.exit ?_
      try simp only [thenS_normal, thenS_ret, thenS_exit, blockS_normal, blockS_ret, blockS_exit, backS_ret, backS_exit, if_true]
      have hrev : r = acc.reverse := by
        refine eq_of_getD (by simp [hr, hK]) fun j hj => ?_
        rw [hg j (by omega), getD_reverse acc j (by omega), hK]
      have htk : List.take K r = r := List.take_of_length_le (by omega)
      refine AX.sregW [2] (And.intro @htk (And.intro @hr True.intro)) True.intro (hq := ?_)
      refine AX.ret (And.intro (Or.inl rfl) ?_)
      have htx : txt m = strN r := by
        show strN (decB m) = _
        unfold decB
        rw [if_neg hm0, ← hacc, hrev]
      rw [htx]
      exact Done.one rfl rfl rfl rfl
  · have hNpos : 0 < N := Nat.pos_of_ne_zero fun e => hN0 (digits_len_zero.2 e)
    refine AX.sregA [0, 3, 16] (hq := ?_)
    refine AX.condT (h := ?_)
    refine AX.keepA [0, 3] (h := ?_)
    refine AX.skip ?_
    try simp only [thenS_normal, thenS_ret, thenS_exit, blockS_normal, blockS_ret, blockS_exit, backS_ret, backS_exit, if_true]
    refine AX.block ?_
    have c2 := rshort_n N 1000000000 (by omega) (by omega) (by omega)
    have hdm := Nat.div_add_mod N 1000000000
    have hml := Nat.mod_lt N (show 1000000000 > 0 by omega)
    have hql : N / 1000000000 < N := Nat.div_lt_self hNpos (by omega)
    have hqd := digits_len_mono (Nat.le_of_lt hql)
    generalize N / 1000000000 = q at *
    generalize N % 1000000000 = r at *
    refine AX.sregC [0, 3, 4, 5] (And.intro c2 True.intro) (hq := ?_)
    refine AX.sregA [0, 3, 5] (hq := ?_)
    refine AX.sregA [0, 3, 5, 6] (hq := ?_)
    refine AX.block ?_
    refine AX.loop (fun M st => ∃ (i d P K : Nat) (acc : List Nat), M = 9 - i ∧ i ≤ 9 ∧ acc.length = K ∧ P = 10 ^ (9 - i) ∧ d < P ∧ acc ++ decr (q * P + d) = decr m ∧ st = ⟨[(6, .i .i64 i), (0, nv q), (5, .i .u64 d), (3, .own 0 0 K 1)], [(0, ⟨5, acc.map y8⟩)], 1⟩) 9
      ⟨0, r, 1000000000, acc.length, acc, rfl, by omega, rfl, rfl, hml, by rw [Nat.mul_comm, hdm]; exact hacc, rfl⟩ ?_
    clear hacc hlen hdm hml acc
    rintro M st ⟨i, d, P, K, acc, rfl, hi, hK, hP, hd, hacc, rfl⟩
    have hlen := congrArg List.length hacc
    rw [List.length_append, hDD] at hlen
    have hP9 : P ≤ 1000000000 := by rw [hP]; exact Nat.pow_le_pow_right (by omega) (show 9 - i ≤ 9 by omega)
    by_cases hgo : i < 9 ∧ (0 < (digits q).length ∨ 0 < d)
    · obtain ⟨h9, hgo⟩ := hgo
      refine AX.cut (fun st => st = ⟨[(6, .i .i64 i), (0, nv q), (5, .i .u64 d), (3, .own 0 0 K 1)], [(0, ⟨5, acc.map y8⟩)], 1⟩) ?_ ?_
      · by_cases hd0 : 0 < d
        · refine AX.sregA [0, 3, 5, 6, 33] (hq := ?_)
          refine AX.condT (h := ?_)
          refine AX.keepA [0, 3, 5, 6] (h := ?_)
          refine AX.skip ?_
          try simp only [thenS_normal, thenS_ret, thenS_exit, blockS_normal, blockS_ret, blockS_exit, backS_ret, backS_exit, if_true]
          first | exact trivial | exact ⟨trivial, trivial⟩ | exact ⟨rfl, rfl⟩
        · have hq0 : 0 < (digits q).length := hgo.resolve_right hd0
          refine AX.sregA [0, 3, 5, 6, 33] (hq := ?_)
          refine AX.condT (h := ?_)
          refine AX.keepA [0, 3, 5, 6] (h := ?_)
          refine AX.skip ?_
          try simp only [thenS_normal, thenS_ret, thenS_exit, blockS_normal, blockS_ret, blockS_exit, backS_ret, backS_exit, if_true]
          first | exact trivial | exact ⟨trivial, trivial⟩ | exact ⟨rfl, rfl⟩
      rintro st rfl
      obtain ⟨P', hP'⟩ : ∃ P', P' = 10 ^ (9 - (i + 1)) := ⟨_, rfl⟩
      have hPP : P = P' * 10 := by rw [hP, hP', ← Nat.pow_succ]; congr 1; omega
      subst hPP
      have hne : q * (P' * 10) + d ≠ 0 := by
        rcases hgo with h | h
        · have : 0 < q := Nat.pos_of_ne_zero fun e => by rw [e, digits_zero] at h; exact absurd h (by simp)
          have : 0 < P' := by rw [hP']; exact Nat.pow_pos (by omega)
          have : 0 < q * (P' * 10) := Nat.mul_pos (by omega) (by omega)
          omega
        · omega
      rw [decr_step hne] at hacc hlen
      rw [List.length_cons] at hlen
      refine AX.seq ?_
      refine AX.block ?_
      refine AX.sregW [0, 3, 5, 6] (And.intro @tmod_ten (And.intro @add48 (And.intro @u8n True.intro))) True.intro (hq := ?_)
      refine AX.regW [0, 3, 5, 6] (And.intro @tdiv_ten True.intro) True.intro (hq := ?_)
      try simp only [thenS_normal, thenS_ret, thenS_exit, blockS_normal, blockS_ret, blockS_exit, backS_ret, backS_exit, if_true]
      refine AX.regW [0, 3, 5, 6] (And.intro @lit_add True.intro) True.intro (hq := ?_)
      try simp only [thenS_normal, thenS_ret, thenS_exit, blockS_normal, blockS_ret, blockS_exit, backS_ret, backS_exit, if_true]
      refine ⟨9 - (i + 1), _, fun _ => 2, by omega,
        ⟨by simp only [renL_y, ltL_y, LeFr, LeHp, lkp, V.ren, V.renL, Row.ren, V.lt, V.ltL, renL_u, ltL_u, List.length_append, List.length_cons, List.length_nil, List.length_set, id_eq, Option.some.injEq, V.i.injEq, V.b.injEq, V.own.injEq, Row.mk.injEq, decide_true, decide_eq_true_eq, true_and, and_true, Bool.and_true, Bool.true_and, if_true, if_false, and_self, Nat.reduceLT, Nat.reduceLeDiff, Nat.reduceEqDiff, Nat.reduceAdd, Nat.reduceSub, Nat.reduceMul, Nat.reducePow, Nat.reduceBEq, Int.reduceLE, Int.reduceLT, Int.reduceToNat, Int.reduceEq, Int.reduceNeg, reduceIte, reduceCtorEq] <;> (first | done | trivial | (and_intros <;> first | trivial | omega | assumption)), by simp only [renL_y, ltL_y, LeFr, LeHp, lkp, V.ren, V.renL, Row.ren, V.lt, V.ltL, renL_u, ltL_u, List.length_append, List.length_cons, List.length_nil, List.length_set, id_eq, Option.some.injEq, V.i.injEq, V.b.injEq, V.own.injEq, Row.mk.injEq, decide_true, decide_eq_true_eq, true_and, and_true, Bool.and_true, Bool.true_and, if_true, if_false, and_self, Nat.reduceLT, Nat.reduceLeDiff, Nat.reduceEqDiff, Nat.reduceAdd, Nat.reduceSub, Nat.reduceMul, Nat.reducePow, Nat.reduceBEq, Int.reduceLE, Int.reduceLT, Int.reduceToNat, Int.reduceEq, Int.reduceNeg, reduceIte, reduceCtorEq] <;> (first | done | trivial | (and_intros <;> first | trivial | omega | assumption)), by simp [Apart], by first | exact Nat.zero_le _ | simp, by intro n hn; first | rfl | exact absurd hn (Nat.not_lt_zero _) | (have h0 : n = 0 := Nat.lt_one_iff.1 hn; subst h0; rfl)⟩
        , ⟨i + 1, d / 10, P', K + 1, acc ++ [48 + d % 10], rfl, by omega, by simp [hK], hP', by omega, by rw [← hacc]; simp, rfl⟩⟩
    · refine AX.seq ?_
      have hfin : q * P + d = q := by
        by_cases h9 : i < 9
        · have h1 : ¬ (0 < (digits q).length ∨ 0 < d) := fun h => hgo ⟨h9, h⟩
          have hq0 : q = 0 := digits_len_zero.1 (by omega)
          rw [hq0]
          omega
        · have : P = 1 := by rw [hP, show 9 - i = 0 by omega]
          subst this
          omega
      by_cases h9 : i < 9
      · have h1 : ¬ (0 < (digits q).length ∨ 0 < d) := fun h => hgo ⟨h9, h⟩
        refine AX.sregA [0, 3, 5, 6, 33] (hq := ?_)
        refine AX.condF (h := ?_)
        refine AX.keepA [0, 3] (h := ?_)
        refine AX.exit ?_
        try simp only [thenS_normal, thenS_ret, thenS_exit, blockS_normal, blockS_ret, blockS_exit, backS_ret, backS_exit, if_true]
        subst hK
        refine ⟨q, _, id, hql,
          ⟨by simp only [renL_y, ltL_y, LeFr, LeHp, lkp, V.ren, V.renL, Row.ren, V.lt, V.ltL, renL_u, ltL_u, List.length_append, List.length_cons, List.length_nil, List.length_set, id_eq, Option.some.injEq, V.i.injEq, V.b.injEq, V.own.injEq, Row.mk.injEq, decide_true, decide_eq_true_eq, true_and, and_true, Bool.and_true, Bool.true_and, if_true, if_false, and_self, Nat.reduceLT, Nat.reduceLeDiff, Nat.reduceEqDiff, Nat.reduceAdd, Nat.reduceSub, Nat.reduceMul, Nat.reducePow, Nat.reduceBEq, Int.reduceLE, Int.reduceLT, Int.reduceToNat, Int.reduceEq, Int.reduceNeg, reduceIte, reduceCtorEq] <;> (first | done | trivial | (and_intros <;> first | trivial | omega | assumption)), by simp only [renL_y, ltL_y, LeFr, LeHp, lkp, V.ren, V.renL, Row.ren, V.lt, V.ltL, renL_u, ltL_u, List.length_append, List.length_cons, List.length_nil, List.length_set, id_eq, Option.some.injEq, V.i.injEq, V.b.injEq, V.own.injEq, Row.mk.injEq, decide_true, decide_eq_true_eq, true_and, and_true, Bool.and_true, Bool.true_and, if_true, if_false, and_self, Nat.reduceLT, Nat.reduceLeDiff, Nat.reduceEqDiff, Nat.reduceAdd, Nat.reduceSub, Nat.reduceMul, Nat.reducePow, Nat.reduceBEq, Int.reduceLE, Int.reduceLT, Int.reduceToNat, Int.reduceEq, Int.reduceNeg, reduceIte, reduceCtorEq] <;> (first | done | trivial | (and_intros <;> first | trivial | omega | assumption)), by simp [Apart], by first | exact Nat.zero_le _ | simp, by intro n hn; first | rfl | exact absurd hn (Nat.not_lt_zero _) | (have h0 : n = 0 := Nat.lt_one_iff.1 hn; subst h0; rfl)⟩
          , ⟨acc, by rw [hfin] at hacc; exact hacc, by omega, rfl⟩⟩
      · refine AX.sregA [0, 3, 5, 6, 33] (hq := ?_)
        refine AX.condF (h := ?_)
        refine AX.keepA [0, 3] (h := ?_)
        refine AX.exit ?_
        try simp only [thenS_normal, thenS_ret, thenS_exit, blockS_normal, blockS_ret, blockS_exit, backS_ret, backS_exit, if_true]
        subst hK
        refine ⟨q, _, id, hql,
          ⟨by simp only [renL_y, ltL_y, LeFr, LeHp, lkp, V.ren, V.renL, Row.ren, V.lt, V.ltL, renL_u, ltL_u, List.length_append, List.length_cons, List.length_nil, List.length_set, id_eq, Option.some.injEq, V.i.injEq, V.b.injEq, V.own.injEq, Row.mk.injEq, decide_true, decide_eq_true_eq, true_and, and_true, Bool.and_true, Bool.true_and, if_true, if_false, and_self, Nat.reduceLT, Nat.reduceLeDiff, Nat.reduceEqDiff, Nat.reduceAdd, Nat.reduceSub, Nat.reduceMul, Nat.reducePow, Nat.reduceBEq, Int.reduceLE, Int.reduceLT, Int.reduceToNat, Int.reduceEq, Int.reduceNeg, reduceIte, reduceCtorEq] <;> (first | done | trivial | (and_intros <;> first | trivial | omega | assumption)), by simp only [renL_y, ltL_y, LeFr, LeHp, lkp, V.ren, V.renL, Row.ren, V.lt, V.ltL, renL_u, ltL_u, List.length_append, List.length_cons, List.length_nil, List.length_set, id_eq, Option.some.injEq, V.i.injEq, V.b.injEq, V.own.injEq, Row.mk.injEq, decide_true, decide_eq_true_eq, true_and, and_true, Bool.and_true, Bool.true_and, if_true, if_false, and_self, Nat.reduceLT, Nat.reduceLeDiff, Nat.reduceEqDiff, Nat.reduceAdd, Nat.reduceSub, Nat.reduceMul, Nat.reducePow, Nat.reduceBEq, Int.reduceLE, Int.reduceLT, Int.reduceToNat, Int.reduceEq, Int.reduceNeg, reduceIte, reduceCtorEq] <;> (first | done | trivial | (and_intros <;> first | trivial | omega | assumption)), by simp [Apart], by first | exact Nat.zero_le _ | simp, by intro n hn; first | rfl | exact absurd hn (Nat.not_lt_zero _) | (have h0 : n = 0 := Nat.lt_one_iff.1 hn; subst h0; rfl)⟩
          , ⟨acc, by rw [hfin] at hacc; exact hacc, by omega, rfl⟩⟩

end Go.Proofs.Ytmhjcmochemndaa

/- Parse, the reference's. -/
set_option linter.unusedVariables false
set_option linter.unusedSimpArgs false
namespace Go.Proofs.Ytmhjcmochemndaa
open Go Go.Proofs.Ytmhjcmochemndaa.Lift
attribute [local irreducible] Lift.PCall Lift.HCall

/-- The nil slice is an empty slice. -/
theorem Lift.AX.nlsl {P : Program} {C : Ctx} {st : St} {Q : Exit → St → Prop} (t : Tmp) {c : Code} (h0 : lkp st.fr t = some .nl) (h : AX P C c ⟨(t, .sl []) :: st.fr, st.hp, st.nx⟩ Q) : AX P C c st Q := by
  intro env a w hs
  refine h env a w ?_
  have hnl : a.eval (.tmp t) = .slice none 0 0 := by
    have := valOf_sound hs (x := .tmp t) h0
    generalize a.eval (.tmp t) = X at this
    cases this with
    | nl => rfl
  show Sim C env (lkp ((t, .sl []) :: st.fr)) (lkp st.hp) (· < st.nx) a w
  rw [lkp_cons]
  refine ⟨hs.sz, hs.df, ?_, hs.row, hs.old, hs.inj, hs.st, hs.ob, hs.gv⟩
  intro t' v hv
  by_cases e : t' = t
  · subst e
    rw [upd_same] at hv
    cases hv
    refine ⟨(hs.tm t' .nl h0).1, ?_⟩
    have : a.tmps.getD t' undef = .slice none 0 0 := hnl
    rw [this]
    exact .sl0
  · rw [upd_ne _ _ e] at hv
    exact hs.tm t' v hv
theorem ten_mul (n : Nat) : (10 : Int) * (n : Int) = ((n * 10 : Nat) : Int) := by omega

set_option maxRecDepth 20000 in
set_option maxHeartbeats 4000000 in
theorem rparse_ok (s : ByteArray) (hs : s.size < 2 ^ 62) : PCall Try.prog 77 [.s s] (numE (parN s) (parE s)) [] := by
  refine PCall.of_ax Try.call77 Try.func77 rfl (by simp [Try.ntmps77]) fun O w => ?_
  simp only [Try.ntmps77, Try.results77, argFr]
  refine AX.sregAV [0] (hq := ?_)
  by_cases hh : s.size = 0 ∨ (bt s 0 = 48 ∧ 1 < s.size)
  · obtain ⟨e1, e2⟩ := par_head hh
    rw [e1, e2]
    refine AX.seq ?_
    by_cases h0 : s.size = 0
    · have hq : decide (s = ⟨#[]⟩) = true := decide_eq_true (size_zero.2 h0)
      apply AX.sreg [0, 21] (by simp only [pq]; rfl)
      · repeat (first
       | (apply RunO.op rfl; · rfl
          · (simp only [opsOf, valsOf, valOf, lkp, ofConst, ofCell, Array.toList, Option.toList, List.map_cons, List.map_nil, List.cons_append, List.nil_append, List.append_nil, Nat.reduceEqDiff, Nat.reducePow, Nat.reduceLT, Nat.reduceLeDiff, reduceIte, if_true, if_false, IntKind.min, IntKind.max, IntKind.bits, IntKind.signed, Int.reduceLE, Int.reduceNeg, Int.reducePow, Int.reduceSub, and_self, Bool.false_eq_true, Nat.reduceSub]; rfl)
          · first | exact effStr hq | (simp (disch := omega) only [go_sem, i64_of, u32_of, u64_of, Nat.reduceLT, Nat.reduceLeDiff, Nat.reduceEqDiff, Nat.reduceAdd, Nat.reduceSub, Nat.reduceMul, Nat.reducePow, Nat.reduceBEq, Int.reduceLE, Int.reduceLT, Int.reduceToNat, Int.reduceEq, Int.reduceNeg, reduceIte, reduceCtorEq]; rfl)
          · (simp (disch := omega) only [go_sem, i64_of, u32_of, u64_of, Nat.reduceLT, Nat.reduceLeDiff, Nat.reduceEqDiff, Nat.reduceAdd, Nat.reduceSub, Nat.reduceMul, Nat.reducePow, Nat.reduceBEq, Int.reduceLE, Int.reduceLT, Int.reduceToNat, Int.reduceEq, Int.reduceNeg, reduceIte, reduceCtorEq]; rfl)
          · (simp only [pb, Nat.reduceLT, Nat.reduceAdd, reduceIte]; rfl))
       | (apply RunO.skip; · rfl
          · (simp only [pb, Nat.reduceLT, Nat.reduceAdd, reduceIte]; rfl)))
        exact RunO.nil
      · repeat (first | exact Keep.nil | (apply Keep.take; · rfl) | (apply Keep.drop; · rfl))
      refine AX.condT (h := ?_)
      refine AX.sregAV [2, 3] (hq := ?_)
      refine AX.ret (And.intro (Or.inl rfl) ?_)
      exact Done.nil_ne rfl rfl
    · have hq : decide (s = ⟨#[]⟩) = false := decide_eq_false fun e => h0 (size_zero.1 e)
      obtain ⟨h1, h2⟩ := hh.resolve_left h0
      apply AX.sreg [0, 21] (by simp only [pq]; rfl)
      · repeat (first
       | (apply RunO.op rfl; · rfl
          · (simp only [opsOf, valsOf, valOf, lkp, ofConst, ofCell, Array.toList, Option.toList, List.map_cons, List.map_nil, List.cons_append, List.nil_append, List.append_nil, Nat.reduceEqDiff, Nat.reducePow, Nat.reduceLT, Nat.reduceLeDiff, reduceIte, if_true, if_false, IntKind.min, IntKind.max, IntKind.bits, IntKind.signed, Int.reduceLE, Int.reduceNeg, Int.reducePow, Int.reduceSub, and_self, Bool.false_eq_true, Nat.reduceSub]; rfl)
          · first | exact effStr hq | exact effIx0 (Nat.pos_of_ne_zero h0) | (simp (disch := omega) only [go_sem, i64_of, u32_of, u64_of, Nat.reduceLT, Nat.reduceLeDiff, Nat.reduceEqDiff, Nat.reduceAdd, Nat.reduceSub, Nat.reduceMul, Nat.reducePow, Nat.reduceBEq, Int.reduceLE, Int.reduceLT, Int.reduceToNat, Int.reduceEq, Int.reduceNeg, reduceIte, reduceCtorEq, h1]; rfl)
          · (simp (disch := omega) only [go_sem, i64_of, u32_of, u64_of, Nat.reduceLT, Nat.reduceLeDiff, Nat.reduceEqDiff, Nat.reduceAdd, Nat.reduceSub, Nat.reduceMul, Nat.reducePow, Nat.reduceBEq, Int.reduceLE, Int.reduceLT, Int.reduceToNat, Int.reduceEq, Int.reduceNeg, reduceIte, reduceCtorEq, h1]; rfl)
          · (simp only [pb, Nat.reduceLT, Nat.reduceAdd, reduceIte]; rfl))
       | (apply RunO.skip; · rfl
          · (simp only [pb, Nat.reduceLT, Nat.reduceAdd, reduceIte]; rfl)))
        exact RunO.nil
      · repeat (first | exact Keep.nil | (apply Keep.take; · rfl) | (apply Keep.drop; · rfl))
      refine AX.condT (h := ?_)
      refine AX.sregAV [2, 3] (hq := ?_)
      refine AX.ret (And.intro (Or.inl rfl) ?_)
      exact Done.nil_ne rfl rfl
  have h0 : s.size ≠ 0 := fun e => hh (.inl e)
  have hq : decide (s = ⟨#[]⟩) = false := decide_eq_false fun e => h0 (size_zero.1 e)
  refine AX.cut (fun st => st = ⟨[(0, .s s)], [], 0⟩) ?_ ?_
  · by_cases h48 : bt s 0 = 48
    · have h1 : ¬ 1 < s.size := fun h => hh (.inr ⟨h48, h⟩)
      apply AX.sreg [0, 21] (by simp only [pq]; rfl)
      · repeat (first
       | (apply RunO.op rfl; · rfl
          · (simp only [opsOf, valsOf, valOf, lkp, ofConst, ofCell, Array.toList, Option.toList, List.map_cons, List.map_nil, List.cons_append, List.nil_append, List.append_nil, Nat.reduceEqDiff, Nat.reducePow, Nat.reduceLT, Nat.reduceLeDiff, reduceIte, if_true, if_false, IntKind.min, IntKind.max, IntKind.bits, IntKind.signed, Int.reduceLE, Int.reduceNeg, Int.reducePow, Int.reduceSub, and_self, Bool.false_eq_true, Nat.reduceSub]; rfl)
          · first | exact effStr hq | exact effIx0 (Nat.pos_of_ne_zero h0) | (simp (disch := omega) only [go_sem, i64_of, u32_of, u64_of, Nat.reduceLT, Nat.reduceLeDiff, Nat.reduceEqDiff, Nat.reduceAdd, Nat.reduceSub, Nat.reduceMul, Nat.reducePow, Nat.reduceBEq, Int.reduceLE, Int.reduceLT, Int.reduceToNat, Int.reduceEq, Int.reduceNeg, reduceIte, reduceCtorEq, h48]; rfl)
          · (simp (disch := omega) only [go_sem, i64_of, u32_of, u64_of, Nat.reduceLT, Nat.reduceLeDiff, Nat.reduceEqDiff, Nat.reduceAdd, Nat.reduceSub, Nat.reduceMul, Nat.reducePow, Nat.reduceBEq, Int.reduceLE, Int.reduceLT, Int.reduceToNat, Int.reduceEq, Int.reduceNeg, reduceIte, reduceCtorEq, h48]; rfl)
          · (simp only [pb, Nat.reduceLT, Nat.reduceAdd, reduceIte]; rfl))
       | (apply RunO.skip; · rfl
          · (simp only [pb, Nat.reduceLT, Nat.reduceAdd, reduceIte]; rfl)))
        exact RunO.nil
      · repeat (first | exact Keep.nil | (apply Keep.take; · rfl) | (apply Keep.drop; · rfl))
      refine AX.condF (h := ?_)
      refine AX.keepA [0] (h := ?_)
      refine AX.skip ?_
      try simp only [thenS_normal, thenS_ret, thenS_exit, blockS_normal, blockS_ret, blockS_exit, backS_ret, backS_exit, if_true]
      first | exact trivial | exact ⟨trivial, trivial⟩ | exact ⟨rfl, rfl⟩
    · apply AX.sreg [0, 21] (by simp only [pq]; rfl)
      · repeat (first
       | (apply RunO.op rfl; · rfl
          · (simp only [opsOf, valsOf, valOf, lkp, ofConst, ofCell, Array.toList, Option.toList, List.map_cons, List.map_nil, List.cons_append, List.nil_append, List.append_nil, Nat.reduceEqDiff, Nat.reducePow, Nat.reduceLT, Nat.reduceLeDiff, reduceIte, if_true, if_false, IntKind.min, IntKind.max, IntKind.bits, IntKind.signed, Int.reduceLE, Int.reduceNeg, Int.reducePow, Int.reduceSub, and_self, Bool.false_eq_true, Nat.reduceSub]; rfl)
          · first | exact effStr hq | exact effIx0 (Nat.pos_of_ne_zero h0) | (simp (disch := omega) only [go_sem, i64_of, u32_of, u64_of, Nat.reduceLT, Nat.reduceLeDiff, Nat.reduceEqDiff, Nat.reduceAdd, Nat.reduceSub, Nat.reduceMul, Nat.reducePow, Nat.reduceBEq, Int.reduceLE, Int.reduceLT, Int.reduceToNat, Int.reduceEq, Int.reduceNeg, reduceIte, reduceCtorEq]; rfl)
          · (simp (disch := omega) only [go_sem, i64_of, u32_of, u64_of, Nat.reduceLT, Nat.reduceLeDiff, Nat.reduceEqDiff, Nat.reduceAdd, Nat.reduceSub, Nat.reduceMul, Nat.reducePow, Nat.reduceBEq, Int.reduceLE, Int.reduceLT, Int.reduceToNat, Int.reduceEq, Int.reduceNeg, reduceIte, reduceCtorEq]; rfl)
          · (simp only [pb, Nat.reduceLT, Nat.reduceAdd, reduceIte]; rfl))
       | (apply RunO.skip; · rfl
          · (simp only [pb, Nat.reduceLT, Nat.reduceAdd, reduceIte]; rfl)))
        exact RunO.nil
      · repeat (first | exact Keep.nil | (apply Keep.take; · rfl) | (apply Keep.drop; · rfl))
      refine AX.condF (h := ?_)
      refine AX.keepA [0] (h := ?_)
      refine AX.skip ?_
      try simp only [thenS_normal, thenS_ret, thenS_exit, blockS_normal, blockS_ret, blockS_exit, backS_ret, backS_exit, if_true]
      first | exact trivial | exact ⟨trivial, trivial⟩ | exact ⟨rfl, rfl⟩
  rintro st rfl
  refine AX.seq ?_
  refine AX.sregAV [0, 4] (hq := ?_)
  refine AX.block ?_
  refine AX.loop (fun N st => ∃ i : Nat, N = s.size - i ∧ i ≤ s.size ∧ (∀ j, j < i → 48 ≤ bt s j ∧ bt s j ≤ 57) ∧ st = ⟨[(4, .i .i64 i), (0, .s s)], [], 0⟩) s.size ⟨0, rfl, by omega, fun j hj => absurd hj (Nat.not_lt_zero j), rfl⟩ ?_
  rintro N st ⟨i, rfl, hi, hdg, rfl⟩
  refine AX.seq ?_
  by_cases h : i < s.size
  · refine AX.sregAV [0, 4, 25] (hq := ?_)
    refine AX.condT (h := ?_)
    refine AX.keepA [0, 4] (h := ?_)
    refine AX.skip ?_
    try simp only [thenS_normal, thenS_ret, thenS_exit, blockS_normal, blockS_ret, blockS_exit, backS_ret, backS_exit, if_true]
    refine AX.seq ?_
    refine AX.block ?_
    by_cases hd : 48 ≤ bt s i ∧ bt s i ≤ 57
    · apply AX.sreg [0, 4, 37] (by simp only [pq]; rfl)
      · repeat (first
       | (apply RunO.op rfl; · rfl
          · (simp only [opsOf, valsOf, valOf, lkp, ofConst, ofCell, Array.toList, Option.toList, List.map_cons, List.map_nil, List.cons_append, List.nil_append, List.append_nil, Nat.reduceEqDiff, Nat.reducePow, Nat.reduceLT, Nat.reduceLeDiff, reduceIte, if_true, if_false, IntKind.min, IntKind.max, IntKind.bits, IntKind.signed, Int.reduceLE, Int.reduceNeg, Int.reducePow, Int.reduceSub, and_self, Bool.false_eq_true, Nat.reduceSub]; rfl)
          · first | exact effIx h | (simp (disch := omega) only [go_sem, i64_of, u32_of, u64_of, Nat.reduceLT, Nat.reduceLeDiff, Nat.reduceEqDiff, Nat.reduceAdd, Nat.reduceSub, Nat.reduceMul, Nat.reducePow, Nat.reduceBEq, Int.reduceLE, Int.reduceLT, Int.reduceToNat, Int.reduceEq, Int.reduceNeg, reduceIte, reduceCtorEq]; rfl)
          · (simp (disch := omega) only [go_sem, i64_of, u32_of, u64_of, Nat.reduceLT, Nat.reduceLeDiff, Nat.reduceEqDiff, Nat.reduceAdd, Nat.reduceSub, Nat.reduceMul, Nat.reducePow, Nat.reduceBEq, Int.reduceLE, Int.reduceLT, Int.reduceToNat, Int.reduceEq, Int.reduceNeg, reduceIte, reduceCtorEq]; rfl)
          · (simp only [pb, Nat.reduceLT, Nat.reduceAdd, reduceIte]; rfl))
       | (apply RunO.skip; · rfl
          · (simp only [pb, Nat.reduceLT, Nat.reduceAdd, reduceIte]; rfl)))
        exact RunO.nil
      · repeat (first | exact Keep.nil | (apply Keep.take; · rfl) | (apply Keep.drop; · rfl))
      refine AX.condF (h := ?_)
      refine AX.keepA [0, 4] (h := ?_)
      refine AX.skip ?_
      try simp only [thenS_normal, thenS_ret, thenS_exit, blockS_normal, blockS_ret, blockS_exit, backS_ret, backS_exit, if_true]
      refine AX.regWV [0, 4] (And.intro @lit_add True.intro) True.intro (hq := ?_)
      try simp only [thenS_normal, thenS_ret, thenS_exit, blockS_normal, blockS_ret, blockS_exit, backS_ret, backS_exit, if_true]
      refine ⟨s.size - (i + 1), _, id, by omega,
        leA
        , ⟨i + 1, rfl, by omega, ?_, rfl⟩⟩
      intro j hj
      by_cases e : j = i
      · rw [e]; exact hd
      · exact hdg j (by omega)
    · obtain ⟨e1, e2⟩ := par_bad (s := s) (fun h2 => hd (h2 i h))
      rw [e1, e2]
      by_cases hlo : bt s i < 48
      · apply AX.sreg [0, 4, 37] (by simp only [pq]; rfl)
        · repeat (first
         | (apply RunO.op rfl; · rfl
            · (simp only [opsOf, valsOf, valOf, lkp, ofConst, ofCell, Array.toList, Option.toList, List.map_cons, List.map_nil, List.cons_append, List.nil_append, List.append_nil, Nat.reduceEqDiff, Nat.reducePow, Nat.reduceLT, Nat.reduceLeDiff, reduceIte, if_true, if_false, IntKind.min, IntKind.max, IntKind.bits, IntKind.signed, Int.reduceLE, Int.reduceNeg, Int.reducePow, Int.reduceSub, and_self, Bool.false_eq_true, Nat.reduceSub]; rfl)
            · first | exact effIx h | (simp (disch := omega) only [go_sem, i64_of, u32_of, u64_of, Nat.reduceLT, Nat.reduceLeDiff, Nat.reduceEqDiff, Nat.reduceAdd, Nat.reduceSub, Nat.reduceMul, Nat.reducePow, Nat.reduceBEq, Int.reduceLE, Int.reduceLT, Int.reduceToNat, Int.reduceEq, Int.reduceNeg, reduceIte, reduceCtorEq]; rfl)
            · (simp (disch := omega) only [go_sem, i64_of, u32_of, u64_of, Nat.reduceLT, Nat.reduceLeDiff, Nat.reduceEqDiff, Nat.reduceAdd, Nat.reduceSub, Nat.reduceMul, Nat.reducePow, Nat.reduceBEq, Int.reduceLE, Int.reduceLT, Int.reduceToNat, Int.reduceEq, Int.reduceNeg, reduceIte, reduceCtorEq]; rfl)
            · (simp only [pb, Nat.reduceLT, Nat.reduceAdd, reduceIte]; rfl))
         | (apply RunO.skip; · rfl
            · (simp only [pb, Nat.reduceLT, Nat.reduceAdd, reduceIte]; rfl)))
          exact RunO.nil
        · repeat (first | exact Keep.nil | (apply Keep.take; · rfl) | (apply Keep.drop; · rfl))
        refine AX.condT (h := ?_)
        refine AX.sregAV [2, 3] (hq := ?_)
        refine AX.ret (And.intro (Or.inl rfl) ?_)
        exact Done.nil_ne rfl rfl
      · apply AX.sreg [0, 4, 37] (by simp only [pq]; rfl)
        · repeat (first
         | (apply RunO.op rfl; · rfl
            · (simp only [opsOf, valsOf, valOf, lkp, ofConst, ofCell, Array.toList, Option.toList, List.map_cons, List.map_nil, List.cons_append, List.nil_append, List.append_nil, Nat.reduceEqDiff, Nat.reducePow, Nat.reduceLT, Nat.reduceLeDiff, reduceIte, if_true, if_false, IntKind.min, IntKind.max, IntKind.bits, IntKind.signed, Int.reduceLE, Int.reduceNeg, Int.reducePow, Int.reduceSub, and_self, Bool.false_eq_true, Nat.reduceSub]; rfl)
            · first | exact effIx h | (simp (disch := omega) only [go_sem, i64_of, u32_of, u64_of, Nat.reduceLT, Nat.reduceLeDiff, Nat.reduceEqDiff, Nat.reduceAdd, Nat.reduceSub, Nat.reduceMul, Nat.reducePow, Nat.reduceBEq, Int.reduceLE, Int.reduceLT, Int.reduceToNat, Int.reduceEq, Int.reduceNeg, reduceIte, reduceCtorEq]; rfl)
            · (simp (disch := omega) only [go_sem, i64_of, u32_of, u64_of, Nat.reduceLT, Nat.reduceLeDiff, Nat.reduceEqDiff, Nat.reduceAdd, Nat.reduceSub, Nat.reduceMul, Nat.reducePow, Nat.reduceBEq, Int.reduceLE, Int.reduceLT, Int.reduceToNat, Int.reduceEq, Int.reduceNeg, reduceIte, reduceCtorEq]; rfl)
            · (simp only [pb, Nat.reduceLT, Nat.reduceAdd, reduceIte]; rfl))
         | (apply RunO.skip; · rfl
            · (simp only [pb, Nat.reduceLT, Nat.reduceAdd, reduceIte]; rfl)))
          exact RunO.nil
        · repeat (first | exact Keep.nil | (apply Keep.take; · rfl) | (apply Keep.drop; · rfl))
        refine AX.condT (h := ?_)
        refine AX.sregAV [2, 3] (hq := ?_)
        refine AX.ret (And.intro (Or.inl rfl) ?_)
        exact Done.nil_ne rfl rfl
  refine AX.sregAV [0, 25] (hq := ?_)
  refine AX.condF (h := ?_)
  refine AX.keepA [0] (h := ?_)
  refine AX.exit ?_
  try simp only [thenS_normal, thenS_ret, thenS_exit, blockS_normal, blockS_ret, blockS_exit, backS_ret, backS_exit, if_true]
  have hD : Dgt s := fun j hj => hdg j (by omega)
  clear hdg h hi i
  refine AX.seq ?_
  by_cases hl : 20000 < s.size
  · obtain ⟨e1, e2⟩ := par_long hh hD hl
    rw [e1, e2]
    refine AX.sregAV [0, 40] (hq := ?_)
    refine AX.condT (h := ?_)
    refine AX.sregAV [2, 3] (hq := ?_)
    refine AX.ret (And.intro (Or.inl rfl) ?_)
    exact Done.nil_ne rfl rfl
  refine AX.sregAV [0, 40] (hq := ?_)
  refine AX.condF (h := ?_)
  refine AX.keepA [0] (h := ?_)
  refine AX.skip ?_
  try simp only [thenS_normal, thenS_ret, thenS_exit, blockS_normal, blockS_ret, blockS_exit, backS_ret, backS_exit, if_true]
  refine AX.sregAV [0, 5] (hq := ?_)
  refine AX.nlsl 5 rfl ?_
  refine AX.keepA [0, 5] (h := ?_)
  refine AX.seq ?_
  refine AX.sregAV [0, 5, 6] (hq := ?_)
  refine AX.block ?_
  refine AX.loop (fun N st => ∃ p : Nat, N = s.size - p ∧ p ≤ s.size ∧ st = ⟨[(6, .i .i64 p), (5, nv (dv s p)), (0, .s s)], [], 0⟩) s.size ⟨0, rfl, by omega, by simp [dv, digits_zero]⟩ ?_
  rintro N st ⟨p, rfl, hp, rfl⟩
  have hKl := dv_len hD (by omega) hp
  refine AX.seq ?_
  by_cases hgo : p < s.size
  · refine AX.sregAV [0, 5, 6, 44] (hq := ?_)
    refine AX.condT (h := ?_)
    refine AX.keepA [0, 5, 6] (h := ?_)
    refine AX.skip ?_
    try simp only [thenS_normal, thenS_ret, thenS_exit, blockS_normal, blockS_ret, blockS_exit, backS_ret, backS_exit, if_true]
    refine AX.block ?_
    refine AX.sregAV [0, 5, 6, 7, 8] (hq := ?_)
    refine AX.cut (fun st => ∃ k by' add : Nat, 0 < k ∧ k ≤ 9 ∧ p + k ≤ s.size ∧ by' = 10 ^ k ∧ add < by' ∧ dv s (p + k) = dv s p * by' + add ∧ st = ⟨[(8, .i .u64 add), (7, .i .u64 by'), (6, .i .i64 (p + k : Nat)), (5, nv (dv s p)), (0, .s s)], [], 0⟩) ?_ ?_
    · refine AX.sregAV [0, 5, 6, 7, 8, 9] (hq := ?_)
      refine AX.block ?_
      refine AX.loop (fun M st => ∃ (k by' add : Nat), M = 9 - k ∧ k ≤ 9 ∧ p + k ≤ s.size ∧ by' = 10 ^ k ∧ add < by' ∧ dv s (p + k) = dv s p * by' + add ∧ st = ⟨[(9, .i .i64 k), (8, .i .u64 add), (7, .i .u64 by'), (6, .i .i64 (p + k : Nat)), (5, nv (dv s p)), (0, .s s)], [], 0⟩) 9 ⟨0, 1, 0, rfl, by omega, by omega, rfl, by omega, by simp, rfl⟩ ?_
      rintro M st ⟨k, by', add, rfl, hk9, hpk, hby, hadd, hdv, rfl⟩
      have hby9 : by' ≤ 1000000000 := by rw [hby]; exact Nat.pow_le_pow_right (by omega) hk9
      refine AX.seq ?_
      by_cases h2 : k < 9 ∧ p + k < s.size
      · obtain ⟨h2, h3⟩ := h2
        refine AX.sregAV [0, 5, 6, 7, 8, 9, 52] (hq := ?_)
        refine AX.condT (h := ?_)
        refine AX.keepA [0, 5, 6, 7, 8, 9] (h := ?_)
        refine AX.skip ?_
        try simp only [thenS_normal, thenS_ret, thenS_exit, blockS_normal, blockS_ret, blockS_exit, backS_ret, backS_exit, if_true]
        refine AX.seq ?_
        refine AX.block ?_
        obtain ⟨hb1, hb2⟩ := hD (p + k) h3
        have hus := u8sub hb1 hb2
        have hst : dv s (p + k + 1) = dv s (p + k) * 10 + (bt s (p + k) - 48) := rfl
        have hix := fun x y => effIx (x := x) (y := y) h3
        generalize bt s (p + k) = b at *
        apply AX.sdreg [0, 5, 6, 7, 8, 9] (by kernel_rfl) (by simp only [pq]; rfl)
        · repeat (first
         | (apply RunD.op rfl; · rfl
            · (simp only [opsOf, valsOf, valOf, lkp, ofConst, ofCell, Array.toList, Option.toList, List.map_cons, List.map_nil, List.cons_append, List.nil_append, List.append_nil, Nat.reduceEqDiff, Nat.reducePow, Nat.reduceLT, Nat.reduceLeDiff, reduceIte, if_true, if_false, IntKind.min, IntKind.max, IntKind.bits, IntKind.signed, Int.reduceLE, Int.reduceNeg, Int.reducePow, Int.reduceSub, and_self, Bool.false_eq_true, Nat.reduceSub]; rfl)
            · first | exact hix _ _ | (simp (disch := omega) only [go_sem, i64_of, u32_of, u64_of, Nat.reduceLT, Nat.reduceLeDiff, Nat.reduceEqDiff, Nat.reduceAdd, Nat.reduceSub, Nat.reduceMul, Nat.reducePow, Nat.reduceBEq, Int.reduceLE, Int.reduceLT, Int.reduceToNat, Int.reduceEq, Int.reduceNeg, reduceIte, reduceCtorEq, hus, ten_mul, ← Int.natCast_add]; rfl)
            · (simp (disch := omega) only [go_sem, i64_of, u32_of, u64_of, Nat.reduceLT, Nat.reduceLeDiff, Nat.reduceEqDiff, Nat.reduceAdd, Nat.reduceSub, Nat.reduceMul, Nat.reducePow, Nat.reduceBEq, Int.reduceLE, Int.reduceLT, Int.reduceToNat, Int.reduceEq, Int.reduceNeg, reduceIte, reduceCtorEq, hus, ten_mul, ← Int.natCast_add]; rfl)
            · (simp only [pb, Nat.reduceLT, Nat.reduceAdd, reduceIte]; rfl)
            · rfl)
         | (apply RunD.skip; · rfl
            · (simp only [pb, Nat.reduceLT, Nat.reduceAdd, reduceIte]; rfl)
            · rfl))
          exact RunD.nil
        · repeat (first | exact Keep.nil | (apply Keep.take; · rfl) | (apply Keep.drop; · rfl))
        · kernel_rfl
        refine AX.regWV [0, 5, 6, 7, 8, 9] (And.intro @lit_add True.intro) True.intro (hq := ?_)
        try simp only [thenS_normal, thenS_ret, thenS_exit, blockS_normal, blockS_ret, blockS_exit, backS_ret, backS_exit, if_true]
        refine AX.regWV [0, 5, 6, 7, 8, 9] (And.intro @lit_add True.intro) True.intro (hq := ?_)
        try simp only [thenS_normal, thenS_ret, thenS_exit, blockS_normal, blockS_ret, blockS_exit, backS_ret, backS_exit, if_true]
        refine ⟨9 - (k + 1), _, id, by omega,
          leA
          , ⟨k + 1, by' * 10, add * 10 + (b - 48), rfl, by omega, by omega, by rw [Nat.pow_succ, hby], by omega, ?_, rfl⟩⟩
        rw [← Nat.add_assoc, hst, hdv, Nat.add_mul, Nat.mul_assoc, Nat.add_assoc]
      · have hk0 : 0 < k := by omega
        by_cases h9 : k < 9
        · have h3 : ¬ p + k < s.size := fun h => h2 ⟨h9, h⟩
          refine AX.sregAV [0, 5, 6, 7, 8, 52] (hq := ?_)
          refine AX.condF (h := ?_)
          refine AX.keepA [5, 6, 7, 8, 0] (h := ?_)
          refine AX.exit ?_
          try simp only [thenS_normal, thenS_ret, thenS_exit, blockS_normal, blockS_ret, blockS_exit, backS_ret, backS_exit, if_true]
          refine ⟨trivial, k, by', add, hk0, hk9, hpk, hby, hadd, hdv, ?_⟩
          first | rfl | skip
        · refine AX.sregAV [0, 5, 6, 7, 8, 52] (hq := ?_)
          refine AX.condF (h := ?_)
          refine AX.keepA [5, 6, 7, 8, 0] (h := ?_)
          refine AX.exit ?_
          try simp only [thenS_normal, thenS_ret, thenS_exit, blockS_normal, blockS_ret, blockS_exit, backS_ret, backS_exit, if_true]
          refine ⟨trivial, k, by', add, hk0, hk9, hpk, hby, hadd, hdv, ?_⟩
          first | rfl | skip
    rintro st ⟨k, by', add, hk0, hk9, hpk, hby, hadd, hdv, rfl⟩
    have hby9 : by' ≤ 1000000000 := by rw [hby]; exact Nat.pow_le_pow_right (by omega) hk9
    have hKn := dv_len hD (by omega) hpk
    have c1 := times_ok (digits (dv s p)) by' 0 (Dg_digits _) (by omega) (by omega) (by omega)
    rw [Nat.pow_zero, Nat.one_mul, val_digits, Nat.mul_comm] at c1
    have c2 := rof_ok add (by omega)
    have hlm : (digits (dv s p * by')).length ≤ 20000 := Nat.le_trans (digits_len_mono (by omega)) hKn
    have hla : (digits add).length ≤ 20000 := Nat.le_trans (digits_len_mono (by omega)) hKn
    have c3 := radd_ok (digits (dv s p * by')) (digits add) (Dg_digits _) (Dg_digits _) (by omega) (by omega)
    rw [val_digits, val_digits, ← hdv] at c3
    refine AX.regCV [0, 5, 6] (And.intro c1 (And.intro c2 (And.intro c3 True.intro))) (hq := ?_)
    try simp only [thenS_normal, thenS_ret, thenS_exit, blockS_normal, blockS_ret, blockS_exit, backS_ret, backS_exit, if_true]
    refine ⟨s.size - (p + k), _, id, by omega,
      leA
      , ⟨p + k, rfl, hpk, rfl⟩⟩
  · have hps : p = s.size := by omega
    obtain ⟨e1, e2⟩ := par_good hh hD hl
    rw [e1, e2]
    refine AX.sregAV [0, 5, 6, 44] (hq := ?_)
    refine AX.condF (h := ?_)
    refine AX.keepA [5] (h := ?_)
    refine AX.exit ?_
    try simp only [thenS_normal, thenS_ret, thenS_exit, blockS_normal, blockS_ret, blockS_exit, backS_ret, backS_exit, if_true]
    refine AX.sregAV [2, 3] (hq := ?_)
    refine AX.ret (And.intro (Or.inl rfl) ?_)
    subst hps
    exact Done.ne rfl rfl

end Go.Proofs.Ytmhjcmochemndaa
