/- The reference's Gcd. -/
import Derived.Test.YtlhobedecoeohaaNatD
set_option linter.unusedVariables false
set_option linter.unusedSimpArgs false
namespace Go.Proofs.Ytlhobedecoeohaa
open Go Go.Proofs.Ytlhobedecoeohaa.Lift

attribute [go_sem] List.getD_cons_zero List.getD_cons_succ

/-! ### Plain facts -/
theorem gcd_even_left {x y : Nat} (hx : x % 2 = 0) (ho : Nat.gcd x y % 2 = 1) : Nat.gcd (x / 2) y = Nat.gcd x y := by
  have h1 : x = 2 * (x / 2) := by omega
  have hy : y % 2 = 1 := by
    by_cases h : y % 2 = 1
    · exact h
    · exfalso
      have h2 : 2 ∣ Nat.gcd x y := Nat.dvd_gcd (Nat.dvd_of_mod_eq_zero hx) (Nat.dvd_of_mod_eq_zero (by omega))
      have := Nat.mod_eq_zero_of_dvd h2
      omega
  have hc : Nat.Coprime 2 y := by
    unfold Nat.Coprime
    rw [Nat.gcd_rec, hy]
    rfl
  conv => rhs; rw [h1]
  exact (Nat.Coprime.gcd_mul_left_cancel _ hc).symm
theorem gcd_even_right {x y : Nat} (hy : y % 2 = 0) (ho : Nat.gcd x y % 2 = 1) : Nat.gcd x (y / 2) = Nat.gcd x y := by
  rw [Nat.gcd_comm x (y / 2), gcd_even_left hy (by rwa [Nat.gcd_comm]), Nat.gcd_comm]
theorem gcd_sub_right {x y : Nat} (h : x ≤ y) : Nat.gcd x (y - x) = Nat.gcd x y := by
  have := Nat.gcd_add_self_right x (y - x)
  rw [show y - x + x = y by omega] at this
  exact this.symm
theorem gcd_step (x y : Nat) : Nat.gcd y (x % y) = Nat.gcd x y := by
  rw [Nat.gcd_comm y, ← Nat.gcd_rec, Nat.gcd_comm]
theorem gcd_odd_not {x y : Nat} (h : ¬ (x % 2 = 0 ∧ y % 2 = 0)) : Nat.gcd x y % 2 = 1 := by
  apply Classical.byContradiction
  intro h1
  have h2 : 2 ∣ Nat.gcd x y := Nat.dvd_of_mod_eq_zero (by omega)
  have hx := Nat.mod_eq_zero_of_dvd (Nat.dvd_trans h2 (Nat.gcd_dvd_left x y))
  have hy := Nat.mod_eq_zero_of_dvd (Nat.dvd_trans h2 (Nat.gcd_dvd_right x y))
  exact h ⟨hx, hy⟩
theorem digits_len_le {m n : Nat} {k : Nat} (h : m ≤ n) (hk : (digits n).length ≤ k) : (digits m).length ≤ k := Nat.le_trans (digits_len_mono h) hk
theorem digits_len_add (m n : Nat) : (digits (m + n)).length ≤ (digits m).length + (digits n).length + 1 := by
  apply digits_length_le
  have h1 := lt_pow_digits m
  have h2 := lt_pow_digits n
  have h3 : 4294967296 ^ (digits m).length ≤ 4294967296 ^ ((digits m).length + (digits n).length) := Nat.pow_le_pow_right (by omega) (by omega)
  have h4 : 4294967296 ^ (digits n).length ≤ 4294967296 ^ ((digits m).length + (digits n).length) := Nat.pow_le_pow_right (by omega) (by omega)
  rw [Nat.pow_succ]
  omega
theorem digits_len_mul (m n : Nat) : (digits (m * n)).length ≤ (digits m).length + (digits n).length := by
  apply digits_length_le
  rw [Nat.pow_add]
  by_cases hn : n = 0
  · subst hn
    rw [Nat.mul_zero]
    exact Nat.mul_pos (Nat.pow_pos (by omega)) (Nat.pow_pos (by omega))
  · exact Nat.mul_lt_mul_of_lt_of_le (lt_pow_digits m) (Nat.le_of_lt (lt_pow_digits n)) (Nat.pow_pos (by omega))

/-- Contracts at numbers. -/
theorem rsub_n (m n : Nat) (hm : (digits m).length < 2 ^ 29) (hn : (digits n).length < 2 ^ 29) : PCall Try.prog 29 [nv m, nv n] (numE (m - n) (if m < n then 1 else 0)) [] := by
  have := rsub_ok (digits m) (digits n) (Dg_digits _) (Dg_digits _) hm hn
  rwa [val_digits, val_digits] at this
theorem radd_n (m n : Nat) (hm : (digits m).length < 2 ^ 29) (hn : (digits n).length < 2 ^ 29) : PCall Try.prog 31 [nv m, nv n] (nv (m + n)) [] := by
  have := radd_ok (digits m) (digits n) (Dg_digits _) (Dg_digits _) hm hn
  rwa [val_digits, val_digits] at this
theorem rmul_n (m n : Nat) (hm : (digits m).length < 2 ^ 28) (hn : (digits n).length < 2 ^ 28) : PCall Try.prog 33 [nv m, nv n] (nv (m * n)) [] := by
  have := rmul_ok (digits m) (digits n) (Dg_digits _) (Dg_digits _) hm hn
  rwa [val_digits, val_digits] at this
theorem rcmp_n (m n : Nat) (hm : (digits m).length < 2 ^ 30) (hn : (digits n).length < 2 ^ 30) : PCall Try.prog 25 [nv m, nv n] (.i .i64 (cmp m n)) [] := by
  have := rcmp_ok (digits m) (digits n) (Dg_digits _) (Dg_digits _) hm hn
  rwa [val_digits, val_digits] at this
theorem even_n (m : Nat) (hm : (digits m).length < 2 ^ 30) : PCall Try.prog 57 [nv m] (.b (decide (m % 2 = 0))) [] := by
  have := even_ok (digits m) (Dg_digits _) hm
  rwa [val_digits] at this
theorem half_n (m : Nat) (hm : (digits m).length < 2 ^ 30) : PCall Try.prog 58 [nv m] (nv (m / 2)) [] := by
  have := half_ok (digits m) (Dg_digits _) hm
  rwa [val_digits] at this
theorem rsmall_n (m : Nat) (hm : (digits m).length < 2 ^ 30) : PCall Try.prog 18 [nv m] (smallV m) [] := by
  have := rsmall_ok (digits m) (Dg_digits _) hm
  rwa [val_digits] at this

theorem rgcd_ok (a b : List Nat) (ha : Dg a) (hb : Dg b) (hla : a.length < 2 ^ 26) (hlb : b.length < 2 ^ 26) : PCall Try.prog 37 [dg a, dg b] (nv (Nat.gcd (val a) (val b))) [] := by
  refine PCall.of_ax Try.call37 Try.func37 rfl (by simp [Try.ntmps37]) fun O w => ?_
  simp only [Try.ntmps37, Try.results37, argFr]
  have c1 := rntrim_ok a ha (by omega)
  have c2 := rntrim_ok b hb (by omega)
  have hma := digits_length_val ha
  have hmb := digits_length_val hb
  generalize val a = m at *
  generalize val b = n at *
  have hsum := digits_len_add m n
  have c3 := rsmall_n m (by omega)
  have c4 := rsmall_n n (by omega)
  apply AX.sreg [0, 1] (by simp only [pq]; rfl)
  · repeat (first
   | (apply RunO.op rfl; · rfl
      · rfl
      iterate 2 (· (simp (disch := omega) only [go_sem, i64_of, u32_of, u64_of, Nat.reduceLT, Nat.reduceLeDiff, Nat.reduceEqDiff, Nat.reduceAdd, Nat.reduceSub, Nat.reduceMul, Nat.reducePow, Nat.reduceBEq, Int.reduceLE, Int.reduceLT, Int.reduceToNat, Int.reduceEq, Int.reduceNeg, reduceIte, reduceCtorEq]; rfl))
      · (simp only [pb, Nat.reduceLT, Nat.reduceAdd, reduceIte]; rfl))
   | (apply RunO.skip; · rfl
      · (simp only [pb, Nat.reduceLT, Nat.reduceAdd, reduceIte]; rfl)))
    exact RunO.nil
  · repeat (first | exact Keep.nil | (apply Keep.take; · rfl) | (apply Keep.drop; · rfl))
  apply AX.sreg [0, 1] (by simp only [pq]; rfl)
  · repeat (first
   | (apply RunO.op rfl; · rfl
      · rfl
      iterate 2 (· (simp (disch := omega) only [go_sem, i64_of, u32_of, u64_of, Nat.reduceLT, Nat.reduceLeDiff, Nat.reduceEqDiff, Nat.reduceAdd, Nat.reduceSub, Nat.reduceMul, Nat.reducePow, Nat.reduceBEq, Int.reduceLE, Int.reduceLT, Int.reduceToNat, Int.reduceEq, Int.reduceNeg, reduceIte, reduceCtorEq]; rfl))
      · (simp only [pb, Nat.reduceLT, Nat.reduceAdd, reduceIte]; rfl))
   | (apply RunO.call rfl; · rfl
      · rfl
      · (simp (disch := omega) only [go_sem, i64_of, u32_of, u64_of, Nat.reduceLT, Nat.reduceLeDiff, Nat.reduceEqDiff, Nat.reduceAdd, Nat.reduceSub, Nat.reduceMul, Nat.reducePow, Nat.reduceBEq, Int.reduceLE, Int.reduceLT, Int.reduceToNat, Int.reduceEq, Int.reduceNeg, reduceIte, reduceCtorEq]; rfl)
      · rfl
      · (first | exact c1 | exact c2)
      · (simp (disch := omega) only [go_sem, i64_of, u32_of, u64_of, Nat.reduceLT, Nat.reduceLeDiff, Nat.reduceEqDiff, Nat.reduceAdd, Nat.reduceSub, Nat.reduceMul, Nat.reducePow, Nat.reduceBEq, Int.reduceLE, Int.reduceLT, Int.reduceToNat, Int.reduceEq, Int.reduceNeg, reduceIte, reduceCtorEq]; rfl)
      · (simp only [pb, Nat.reduceLT, Nat.reduceAdd, reduceIte]; rfl))
   | (apply RunO.skip; · rfl
      · (simp only [pb, Nat.reduceLT, Nat.reduceAdd, reduceIte]; rfl)))
    exact RunO.nil
  · repeat (first | exact Keep.nil | (apply Keep.take; · rfl) | (apply Keep.drop; · rfl))
  apply AX.sreg [0, 1, 5, 6] (by simp only [pq]; rfl)
  · repeat (first
   | (apply RunO.op rfl; · rfl
      · rfl
      iterate 2 (· (simp (disch := omega) only [go_sem, i64_of, u32_of, u64_of, Nat.reduceLT, Nat.reduceLeDiff, Nat.reduceEqDiff, Nat.reduceAdd, Nat.reduceSub, Nat.reduceMul, Nat.reducePow, Nat.reduceBEq, Int.reduceLE, Int.reduceLT, Int.reduceToNat, Int.reduceEq, Int.reduceNeg, reduceIte, reduceCtorEq]; rfl))
      · (simp only [pb, Nat.reduceLT, Nat.reduceAdd, reduceIte]; rfl))
   | (apply RunO.call rfl; · rfl
      · rfl
      · (simp (disch := omega) only [go_sem, i64_of, u32_of, u64_of, Nat.reduceLT, Nat.reduceLeDiff, Nat.reduceEqDiff, Nat.reduceAdd, Nat.reduceSub, Nat.reduceMul, Nat.reducePow, Nat.reduceBEq, Int.reduceLE, Int.reduceLT, Int.reduceToNat, Int.reduceEq, Int.reduceNeg, reduceIte, reduceCtorEq]; rfl)
      · rfl
      · (first | exact c3)
      · (simp (disch := omega) only [go_sem, i64_of, u32_of, u64_of, Nat.reduceLT, Nat.reduceLeDiff, Nat.reduceEqDiff, Nat.reduceAdd, Nat.reduceSub, Nat.reduceMul, Nat.reducePow, Nat.reduceBEq, Int.reduceLE, Int.reduceLT, Int.reduceToNat, Int.reduceEq, Int.reduceNeg, reduceIte, reduceCtorEq]; rfl)
      · (simp only [pb, Nat.reduceLT, Nat.reduceAdd, reduceIte]; rfl))
   | (apply RunO.skip; · rfl
      · (simp only [pb, Nat.reduceLT, Nat.reduceAdd, reduceIte]; rfl)))
    exact RunO.nil
  · repeat (first | exact Keep.nil | (apply Keep.take; · rfl) | (apply Keep.drop; · rfl))
  apply AX.sreg [0, 1, 5, 6, 7, 8] (by simp only [pq]; rfl)
  · repeat (first
   | (apply RunO.op rfl; · rfl
      · rfl
      iterate 2 (· (simp (disch := omega) only [go_sem, i64_of, u32_of, u64_of, Nat.reduceLT, Nat.reduceLeDiff, Nat.reduceEqDiff, Nat.reduceAdd, Nat.reduceSub, Nat.reduceMul, Nat.reducePow, Nat.reduceBEq, Int.reduceLE, Int.reduceLT, Int.reduceToNat, Int.reduceEq, Int.reduceNeg, reduceIte, reduceCtorEq]; rfl))
      · (simp only [pb, Nat.reduceLT, Nat.reduceAdd, reduceIte]; rfl))
   | (apply RunO.call rfl; · rfl
      · rfl
      · (simp (disch := omega) only [go_sem, i64_of, u32_of, u64_of, Nat.reduceLT, Nat.reduceLeDiff, Nat.reduceEqDiff, Nat.reduceAdd, Nat.reduceSub, Nat.reduceMul, Nat.reducePow, Nat.reduceBEq, Int.reduceLE, Int.reduceLT, Int.reduceToNat, Int.reduceEq, Int.reduceNeg, reduceIte, reduceCtorEq]; rfl)
      · rfl
      · (first | exact c4)
      · (simp (disch := omega) only [go_sem, i64_of, u32_of, u64_of, Nat.reduceLT, Nat.reduceLeDiff, Nat.reduceEqDiff, Nat.reduceAdd, Nat.reduceSub, Nat.reduceMul, Nat.reducePow, Nat.reduceBEq, Int.reduceLE, Int.reduceLT, Int.reduceToNat, Int.reduceEq, Int.reduceNeg, reduceIte, reduceCtorEq]; rfl)
      · (simp only [pb, Nat.reduceLT, Nat.reduceAdd, reduceIte]; rfl))
   | (apply RunO.skip; · rfl
      · (simp only [pb, Nat.reduceLT, Nat.reduceAdd, reduceIte]; rfl)))
    exact RunO.nil
  · repeat (first | exact Keep.nil | (apply Keep.take; · rfl) | (apply Keep.drop; · rfl))
  refine AX.seq ?_
  by_cases hs : m < 18446744073709551616 ∧ n < 18446744073709551616
  · have e1 : smallN m = m := if_pos hs.1
    have e2 : smallN n = n := if_pos hs.2
    have e3 : decide (m < 18446744073709551616) = true := decide_eq_true hs.1
    have e4 : decide (n < 18446744073709551616) = true := decide_eq_true hs.2
    rw [e1, e2, e3, e4]
    apply AX.sreg [5, 7, 27] (by simp only [pq]; rfl)
    · repeat (first
     | (apply RunO.op rfl; · rfl
        · rfl
        iterate 2 (· (simp (disch := omega) only [go_sem, i64_of, u32_of, u64_of, Nat.reduceLT, Nat.reduceLeDiff, Nat.reduceEqDiff, Nat.reduceAdd, Nat.reduceSub, Nat.reduceMul, Nat.reducePow, Nat.reduceBEq, Int.reduceLE, Int.reduceLT, Int.reduceToNat, Int.reduceEq, Int.reduceNeg, reduceIte, reduceCtorEq]; rfl))
        · (simp only [pb, Nat.reduceLT, Nat.reduceAdd, reduceIte]; rfl))
     | (apply RunO.skip; · rfl
        · (simp only [pb, Nat.reduceLT, Nat.reduceAdd, reduceIte]; rfl)))
      exact RunO.nil
    · repeat (first | exact Keep.nil | (apply Keep.take; · rfl) | (apply Keep.drop; · rfl))
    refine AX.cond_true (by simp only [valOf, lkp, if_true, if_false, Nat.reduceEqDiff, reduceIte]) ?_
    apply AX.keep (l := [5, 7])
    · repeat (first | exact Keep.nil | (apply Keep.take; · rfl) | (apply Keep.drop; · rfl))
    refine AX.seq ?_
    refine AX.block ?_
    refine AX.loop (fun N st => ∃ x : Nat, x < 18446744073709551616 ∧ N < 18446744073709551616 ∧ Nat.gcd x N = Nat.gcd m n ∧ st = ⟨[(7, .i .u64 N), (5, .i .u64 x)], [], 0⟩) n ⟨m, hs.1, hs.2, rfl, rfl⟩ ?_
    rintro N st ⟨x, hx, hN, hg, rfl⟩
    refine AX.seq ?_
    by_cases h0 : N = 0
    · subst h0
      apply AX.sreg [5, 7, 29] (by simp only [pq]; rfl)
      · repeat (first
       | (apply RunO.op rfl; · rfl
          · rfl
          iterate 2 (· (simp (disch := omega) only [go_sem, i64_of, u32_of, u64_of, Nat.reduceLT, Nat.reduceLeDiff, Nat.reduceEqDiff, Nat.reduceAdd, Nat.reduceSub, Nat.reduceMul, Nat.reducePow, Nat.reduceBEq, Int.reduceLE, Int.reduceLT, Int.reduceToNat, Int.reduceEq, Int.reduceNeg, reduceIte, reduceCtorEq]; rfl))
          · (simp only [pb, Nat.reduceLT, Nat.reduceAdd, reduceIte]; rfl))
       | (apply RunO.skip; · rfl
          · (simp only [pb, Nat.reduceLT, Nat.reduceAdd, reduceIte]; rfl)))
        exact RunO.nil
      · repeat (first | exact Keep.nil | (apply Keep.take; · rfl) | (apply Keep.drop; · rfl))
      refine AX.cond_false (by simp only [valOf, lkp, if_true, if_false, Nat.reduceEqDiff, reduceIte]) ?_
      refine AX.exit ?_
      try simp only [thenS_normal, thenS_ret, thenS_exit, blockS_normal, blockS_ret, blockS_exit, backS_ret, backS_exit, if_true]
      have c5 := rof_ok x hx
      rw [Nat.gcd_zero_right] at hg
      rw [← hg]
      apply AX.sreg [4] (by simp only [pq]; rfl)
      · repeat (first
       | (apply RunO.op rfl; · rfl
          · rfl
          iterate 2 (· (simp (disch := omega) only [go_sem, i64_of, u32_of, u64_of, Nat.reduceLT, Nat.reduceLeDiff, Nat.reduceEqDiff, Nat.reduceAdd, Nat.reduceSub, Nat.reduceMul, Nat.reducePow, Nat.reduceBEq, Int.reduceLE, Int.reduceLT, Int.reduceToNat, Int.reduceEq, Int.reduceNeg, reduceIte, reduceCtorEq]; rfl))
          · (simp only [pb, Nat.reduceLT, Nat.reduceAdd, reduceIte]; rfl))
       | (apply RunO.call rfl; · rfl
          · rfl
          · (simp (disch := omega) only [go_sem, i64_of, u32_of, u64_of, Nat.reduceLT, Nat.reduceLeDiff, Nat.reduceEqDiff, Nat.reduceAdd, Nat.reduceSub, Nat.reduceMul, Nat.reducePow, Nat.reduceBEq, Int.reduceLE, Int.reduceLT, Int.reduceToNat, Int.reduceEq, Int.reduceNeg, reduceIte, reduceCtorEq]; rfl)
          · rfl
          · (first | exact c5)
          · (simp (disch := omega) only [go_sem, i64_of, u32_of, u64_of, Nat.reduceLT, Nat.reduceLeDiff, Nat.reduceEqDiff, Nat.reduceAdd, Nat.reduceSub, Nat.reduceMul, Nat.reducePow, Nat.reduceBEq, Int.reduceLE, Int.reduceLT, Int.reduceToNat, Int.reduceEq, Int.reduceNeg, reduceIte, reduceCtorEq]; rfl)
          · (simp only [pb, Nat.reduceLT, Nat.reduceAdd, reduceIte]; rfl))
       | (apply RunO.skip; · rfl
          · (simp only [pb, Nat.reduceLT, Nat.reduceAdd, reduceIte]; rfl)))
        exact RunO.nil
      · repeat (first | exact Keep.nil | (apply Keep.take; · rfl) | (apply Keep.drop; · rfl))
      refine AX.ret (And.intro (Or.inl rfl) ?_)
      exact Done.sl rfl
    · have hml := Nat.mod_lt x (show 0 < N by omega)
      have hgs := gcd_step x N
      have e5 : Int.tmod (x : Int) (N : Int) = ((x % N : Nat) : Int) := rfl
      generalize x % N = r at *
      apply AX.sreg [5, 7, 29] (by simp only [pq]; rfl)
      · repeat (first
       | (apply RunO.op rfl; · rfl
          · rfl
          iterate 2 (· (simp (disch := omega) only [go_sem, i64_of, u32_of, u64_of, Nat.reduceLT, Nat.reduceLeDiff, Nat.reduceEqDiff, Nat.reduceAdd, Nat.reduceSub, Nat.reduceMul, Nat.reducePow, Nat.reduceBEq, Int.reduceLE, Int.reduceLT, Int.reduceToNat, Int.reduceEq, Int.reduceNeg, reduceIte, reduceCtorEq]; rfl))
          · (simp only [pb, Nat.reduceLT, Nat.reduceAdd, reduceIte]; rfl))
       | (apply RunO.skip; · rfl
          · (simp only [pb, Nat.reduceLT, Nat.reduceAdd, reduceIte]; rfl)))
        exact RunO.nil
      · repeat (first | exact Keep.nil | (apply Keep.take; · rfl) | (apply Keep.drop; · rfl))
      refine AX.cond_true (by simp only [valOf, lkp, if_true, if_false, Nat.reduceEqDiff, reduceIte]) ?_
      apply AX.keep (l := [5, 7])
      · repeat (first | exact Keep.nil | (apply Keep.take; · rfl) | (apply Keep.drop; · rfl))
      refine AX.skip ?_
      try simp only [thenS_normal, thenS_ret, thenS_exit, blockS_normal, blockS_ret, blockS_exit, backS_ret, backS_exit, if_true]
      refine AX.block ?_
      apply AX.dreg [5, 7] (by kernel_rfl) (by simp only [pq]; rfl)
      · repeat (first
       | (apply RunD.op rfl; · rfl
          · rfl
          iterate 2 (· (simp (disch := omega) only [go_sem, i64_of, u32_of, u64_of, Nat.reduceLT, Nat.reduceLeDiff, Nat.reduceEqDiff, Nat.reduceAdd, Nat.reduceSub, Nat.reduceMul, Nat.reducePow, Nat.reduceBEq, Int.reduceLE, Int.reduceLT, Int.reduceToNat, Int.reduceEq, Int.reduceNeg, reduceIte, reduceCtorEq, e5]; rfl))
          · (simp only [pb, Nat.reduceLT, Nat.reduceAdd, reduceIte]; rfl)
          · rfl)
       | (apply RunD.skip; · rfl
          · (simp only [pb, Nat.reduceLT, Nat.reduceAdd, reduceIte]; rfl)
          · rfl))
        exact RunD.nil
      · repeat (first | exact Keep.nil | (apply Keep.take; · rfl) | (apply Keep.drop; · rfl))
      · kernel_rfl
      try simp only [thenS_normal, thenS_ret, thenS_exit, blockS_normal, blockS_ret, blockS_exit, backS_ret, backS_exit, if_true]
      refine ⟨r, _, id, by omega,
        ⟨by simp only [LeFr, LeHp, lkp, V.ren, V.renL, Row.ren, V.lt, V.ltL, renL_u, ltL_u, List.length_append, List.length_cons, List.length_nil, List.length_set, id_eq, Option.some.injEq, V.i.injEq, V.b.injEq, V.own.injEq, Row.mk.injEq, decide_true, decide_eq_true_eq, true_and, and_true, Bool.and_true, Bool.true_and, if_true, if_false, and_self, Nat.reduceLT, Nat.reduceLeDiff, Nat.reduceEqDiff, Nat.reduceAdd, Nat.reduceSub, Nat.reduceMul, Nat.reducePow, Nat.reduceBEq, Int.reduceLE, Int.reduceLT, Int.reduceToNat, Int.reduceEq, Int.reduceNeg, reduceIte, reduceCtorEq] <;> (first | done | trivial | (and_intros <;> first | trivial | omega | assumption)), by simp only [LeFr, LeHp, lkp, V.ren, V.renL, Row.ren, V.lt, V.ltL, renL_u, ltL_u, List.length_append, List.length_cons, List.length_nil, List.length_set, id_eq, Option.some.injEq, V.i.injEq, V.b.injEq, V.own.injEq, Row.mk.injEq, decide_true, decide_eq_true_eq, true_and, and_true, Bool.and_true, Bool.true_and, if_true, if_false, and_self, Nat.reduceLT, Nat.reduceLeDiff, Nat.reduceEqDiff, Nat.reduceAdd, Nat.reduceSub, Nat.reduceMul, Nat.reducePow, Nat.reduceBEq, Int.reduceLE, Int.reduceLT, Int.reduceToNat, Int.reduceEq, Int.reduceNeg, reduceIte, reduceCtorEq] <;> (first | done | trivial | (and_intros <;> first | trivial | omega | assumption)), by simp [Apart], by first | exact Nat.zero_le _ | simp, by intro n hn; first | rfl | exact absurd hn (Nat.not_lt_zero _)⟩
        , ⟨N, by omega, by omega, by rw [← hg, hgs], rfl⟩⟩
  have e0 : (decide (m < 18446744073709551616) && decide (n < 18446744073709551616)) = false := by
    rw [Bool.and_eq_false_iff]
    by_cases h1 : m < 18446744073709551616
    · right
      exact decide_eq_false fun h2 => hs ⟨h1, h2⟩
    · left
      exact decide_eq_false h1
  refine AX.cut (fun st => st = ⟨[(27, .b false), (1, nv n), (0, nv m)], [], 0⟩) ?_ ?_
  · by_cases h1 : m < 18446744073709551616
    · have e3 : decide (m < 18446744073709551616) = true := decide_eq_true h1
      have e4 : decide (n < 18446744073709551616) = false := decide_eq_false fun h2 => hs ⟨h1, h2⟩
      rw [e3, e4]
      apply AX.reg [0, 1, 27] (by simp only [pq]; rfl)
      · repeat (first
       | (apply RunO.op rfl; · rfl
          · rfl
          iterate 2 (· (simp (disch := omega) only [go_sem, i64_of, u32_of, u64_of, Nat.reduceLT, Nat.reduceLeDiff, Nat.reduceEqDiff, Nat.reduceAdd, Nat.reduceSub, Nat.reduceMul, Nat.reducePow, Nat.reduceBEq, Int.reduceLE, Int.reduceLT, Int.reduceToNat, Int.reduceEq, Int.reduceNeg, reduceIte, reduceCtorEq]; rfl))
          · (simp only [pb, Nat.reduceLT, Nat.reduceAdd, reduceIte]; rfl))
       | (apply RunO.skip; · rfl
          · (simp only [pb, Nat.reduceLT, Nat.reduceAdd, reduceIte]; rfl)))
        exact RunO.nil
      · repeat (first | exact Keep.nil | (apply Keep.take; · rfl) | (apply Keep.drop; · rfl))
      exact ⟨rfl, rfl⟩
    · have e3 : decide (m < 18446744073709551616) = false := decide_eq_false h1
      rw [e3]
      apply AX.reg [0, 1, 27] (by simp only [pq]; rfl)
      · repeat (first
       | (apply RunO.op rfl; · rfl
          · rfl
          iterate 2 (· (simp (disch := omega) only [go_sem, i64_of, u32_of, u64_of, Nat.reduceLT, Nat.reduceLeDiff, Nat.reduceEqDiff, Nat.reduceAdd, Nat.reduceSub, Nat.reduceMul, Nat.reducePow, Nat.reduceBEq, Int.reduceLE, Int.reduceLT, Int.reduceToNat, Int.reduceEq, Int.reduceNeg, reduceIte, reduceCtorEq]; rfl))
          · (simp only [pb, Nat.reduceLT, Nat.reduceAdd, reduceIte]; rfl))
       | (apply RunO.skip; · rfl
          · (simp only [pb, Nat.reduceLT, Nat.reduceAdd, reduceIte]; rfl)))
        exact RunO.nil
      · repeat (first | exact Keep.nil | (apply Keep.take; · rfl) | (apply Keep.drop; · rfl))
      exact ⟨rfl, rfl⟩
  rintro st rfl
  refine AX.cond_false (by simp only [valOf, lkp, if_true, if_false, Nat.reduceEqDiff, reduceIte]) ?_
  refine AX.skip ?_
  try simp only [thenS_normal, thenS_ret, thenS_exit, blockS_normal, blockS_ret, blockS_exit, backS_ret, backS_exit, if_true]
  refine AX.seq ?_
  by_cases hm0 : (digits m).length = 0
  · apply AX.sreg [0, 1, 38] (by simp only [pq]; rfl)
    · repeat (first
     | (apply RunO.op rfl; · rfl
        · rfl
        iterate 2 (· (simp (disch := omega) only [go_sem, i64_of, u32_of, u64_of, Nat.reduceLT, Nat.reduceLeDiff, Nat.reduceEqDiff, Nat.reduceAdd, Nat.reduceSub, Nat.reduceMul, Nat.reducePow, Nat.reduceBEq, Int.reduceLE, Int.reduceLT, Int.reduceToNat, Int.reduceEq, Int.reduceNeg, reduceIte, reduceCtorEq]; rfl))
        · (simp only [pb, Nat.reduceLT, Nat.reduceAdd, reduceIte]; rfl))
     | (apply RunO.skip; · rfl
        · (simp only [pb, Nat.reduceLT, Nat.reduceAdd, reduceIte]; rfl)))
      exact RunO.nil
    · repeat (first | exact Keep.nil | (apply Keep.take; · rfl) | (apply Keep.drop; · rfl))
    refine AX.cond_true (by simp only [valOf, lkp, if_true, if_false, Nat.reduceEqDiff, reduceIte]) ?_
    apply AX.sreg [4] (by simp only [pq]; rfl)
    · repeat (first
     | (apply RunO.op rfl; · rfl
        · rfl
        iterate 2 (· (simp (disch := omega) only [go_sem, i64_of, u32_of, u64_of, Nat.reduceLT, Nat.reduceLeDiff, Nat.reduceEqDiff, Nat.reduceAdd, Nat.reduceSub, Nat.reduceMul, Nat.reducePow, Nat.reduceBEq, Int.reduceLE, Int.reduceLT, Int.reduceToNat, Int.reduceEq, Int.reduceNeg, reduceIte, reduceCtorEq]; rfl))
        · (simp only [pb, Nat.reduceLT, Nat.reduceAdd, reduceIte]; rfl))
     | (apply RunO.skip; · rfl
        · (simp only [pb, Nat.reduceLT, Nat.reduceAdd, reduceIte]; rfl)))
      exact RunO.nil
    · repeat (first | exact Keep.nil | (apply Keep.take; · rfl) | (apply Keep.drop; · rfl))
    refine AX.ret (And.intro (Or.inl rfl) ?_)
    rw [digits_len_zero.1 hm0, Nat.gcd_zero_left]
    exact Done.sl rfl
  apply AX.sreg [0, 1, 38] (by simp only [pq]; rfl)
  · repeat (first
   | (apply RunO.op rfl; · rfl
      · rfl
      iterate 2 (· (simp (disch := omega) only [go_sem, i64_of, u32_of, u64_of, Nat.reduceLT, Nat.reduceLeDiff, Nat.reduceEqDiff, Nat.reduceAdd, Nat.reduceSub, Nat.reduceMul, Nat.reducePow, Nat.reduceBEq, Int.reduceLE, Int.reduceLT, Int.reduceToNat, Int.reduceEq, Int.reduceNeg, reduceIte, reduceCtorEq]; rfl))
      · (simp only [pb, Nat.reduceLT, Nat.reduceAdd, reduceIte]; rfl))
   | (apply RunO.skip; · rfl
      · (simp only [pb, Nat.reduceLT, Nat.reduceAdd, reduceIte]; rfl)))
    exact RunO.nil
  · repeat (first | exact Keep.nil | (apply Keep.take; · rfl) | (apply Keep.drop; · rfl))
  refine AX.cond_false (by simp only [valOf, lkp, if_true, if_false, Nat.reduceEqDiff, reduceIte]) ?_
  refine AX.skip ?_
  try simp only [thenS_normal, thenS_ret, thenS_exit, blockS_normal, blockS_ret, blockS_exit, backS_ret, backS_exit, if_true]
  refine AX.seq ?_
  by_cases hn0 : (digits n).length = 0
  · apply AX.sreg [0, 1, 42] (by simp only [pq]; rfl)
    · repeat (first
     | (apply RunO.op rfl; · rfl
        · rfl
        iterate 2 (· (simp (disch := omega) only [go_sem, i64_of, u32_of, u64_of, Nat.reduceLT, Nat.reduceLeDiff, Nat.reduceEqDiff, Nat.reduceAdd, Nat.reduceSub, Nat.reduceMul, Nat.reducePow, Nat.reduceBEq, Int.reduceLE, Int.reduceLT, Int.reduceToNat, Int.reduceEq, Int.reduceNeg, reduceIte, reduceCtorEq]; rfl))
        · (simp only [pb, Nat.reduceLT, Nat.reduceAdd, reduceIte]; rfl))
     | (apply RunO.skip; · rfl
        · (simp only [pb, Nat.reduceLT, Nat.reduceAdd, reduceIte]; rfl)))
      exact RunO.nil
    · repeat (first | exact Keep.nil | (apply Keep.take; · rfl) | (apply Keep.drop; · rfl))
    refine AX.cond_true (by simp only [valOf, lkp, if_true, if_false, Nat.reduceEqDiff, reduceIte]) ?_
    apply AX.sreg [4] (by simp only [pq]; rfl)
    · repeat (first
     | (apply RunO.op rfl; · rfl
        · rfl
        iterate 2 (· (simp (disch := omega) only [go_sem, i64_of, u32_of, u64_of, Nat.reduceLT, Nat.reduceLeDiff, Nat.reduceEqDiff, Nat.reduceAdd, Nat.reduceSub, Nat.reduceMul, Nat.reducePow, Nat.reduceBEq, Int.reduceLE, Int.reduceLT, Int.reduceToNat, Int.reduceEq, Int.reduceNeg, reduceIte, reduceCtorEq]; rfl))
        · (simp only [pb, Nat.reduceLT, Nat.reduceAdd, reduceIte]; rfl))
     | (apply RunO.skip; · rfl
        · (simp only [pb, Nat.reduceLT, Nat.reduceAdd, reduceIte]; rfl)))
      exact RunO.nil
    · repeat (first | exact Keep.nil | (apply Keep.take; · rfl) | (apply Keep.drop; · rfl))
    refine AX.ret (And.intro (Or.inl rfl) ?_)
    rw [digits_len_zero.1 hn0, Nat.gcd_zero_right]
    exact Done.sl rfl
  apply AX.sreg [0, 1, 42] (by simp only [pq]; rfl)
  · repeat (first
   | (apply RunO.op rfl; · rfl
      · rfl
      iterate 2 (· (simp (disch := omega) only [go_sem, i64_of, u32_of, u64_of, Nat.reduceLT, Nat.reduceLeDiff, Nat.reduceEqDiff, Nat.reduceAdd, Nat.reduceSub, Nat.reduceMul, Nat.reducePow, Nat.reduceBEq, Int.reduceLE, Int.reduceLT, Int.reduceToNat, Int.reduceEq, Int.reduceNeg, reduceIte, reduceCtorEq]; rfl))
      · (simp only [pb, Nat.reduceLT, Nat.reduceAdd, reduceIte]; rfl))
   | (apply RunO.skip; · rfl
      · (simp only [pb, Nat.reduceLT, Nat.reduceAdd, reduceIte]; rfl)))
    exact RunO.nil
  · repeat (first | exact Keep.nil | (apply Keep.take; · rfl) | (apply Keep.drop; · rfl))
  refine AX.cond_false (by simp only [valOf, lkp, if_true, if_false, Nat.reduceEqDiff, reduceIte]) ?_
  refine AX.skip ?_
  try simp only [thenS_normal, thenS_ret, thenS_exit, blockS_normal, blockS_ret, blockS_exit, backS_ret, backS_exit, if_true]
  have hm1 : 0 < m := Nat.pos_of_ne_zero fun e => hm0 (digits_len_zero.2 e)
  have hn1 : 0 < n := Nat.pos_of_ne_zero fun e => hn0 (digits_len_zero.2 e)
  have c5 := rof_ok 1 (by omega)
  apply AX.sreg [0, 1, 9] (by simp only [pq]; rfl)
  · repeat (first
   | (apply RunO.op rfl; · rfl
      · rfl
      iterate 2 (· (simp (disch := omega) only [go_sem, i64_of, u32_of, u64_of, Nat.reduceLT, Nat.reduceLeDiff, Nat.reduceEqDiff, Nat.reduceAdd, Nat.reduceSub, Nat.reduceMul, Nat.reducePow, Nat.reduceBEq, Int.reduceLE, Int.reduceLT, Int.reduceToNat, Int.reduceEq, Int.reduceNeg, reduceIte, reduceCtorEq]; rfl))
      · (simp only [pb, Nat.reduceLT, Nat.reduceAdd, reduceIte]; rfl))
   | (apply RunO.call rfl; · rfl
      · rfl
      · (simp (disch := omega) only [go_sem, i64_of, u32_of, u64_of, Nat.reduceLT, Nat.reduceLeDiff, Nat.reduceEqDiff, Nat.reduceAdd, Nat.reduceSub, Nat.reduceMul, Nat.reducePow, Nat.reduceBEq, Int.reduceLE, Int.reduceLT, Int.reduceToNat, Int.reduceEq, Int.reduceNeg, reduceIte, reduceCtorEq]; rfl)
      · rfl
      · (first | exact c5)
      · (simp (disch := omega) only [go_sem, i64_of, u32_of, u64_of, Nat.reduceLT, Nat.reduceLeDiff, Nat.reduceEqDiff, Nat.reduceAdd, Nat.reduceSub, Nat.reduceMul, Nat.reducePow, Nat.reduceBEq, Int.reduceLE, Int.reduceLT, Int.reduceToNat, Int.reduceEq, Int.reduceNeg, reduceIte, reduceCtorEq]; rfl)
      · (simp only [pb, Nat.reduceLT, Nat.reduceAdd, reduceIte]; rfl))
   | (apply RunO.skip; · rfl
      · (simp only [pb, Nat.reduceLT, Nat.reduceAdd, reduceIte]; rfl)))
    exact RunO.nil
  · repeat (first | exact Keep.nil | (apply Keep.take; · rfl) | (apply Keep.drop; · rfl))
  refine AX.cut (fun st => ∃ x y t : Nat, 0 < x ∧ 0 < y ∧ x ≤ m ∧ y ≤ n ∧ t ≤ m ∧ Nat.gcd x y % 2 = 1 ∧ Nat.gcd x y * t = Nat.gcd m n ∧ st = ⟨[(9, nv t), (1, nv y), (0, nv x)], [], 0⟩) ?_ ?_
  · refine AX.block ?_
    refine AX.loop (fun N st => ∃ y t : Nat, 0 < N ∧ 0 < y ∧ N * t = m ∧ y * t = n ∧ st = ⟨[(9, nv t), (1, nv y), (0, nv N)], [], 0⟩) m ⟨n, 1, hm1, hn1, by omega, by omega, rfl⟩ ?_
    rintro x st ⟨y, t, hx, hy, hxt, hyt, rfl⟩
    have htp : 0 < t := Nat.pos_of_ne_zero (by rintro rfl; omega)
    have hxm : x ≤ m := by rw [← hxt]; exact Nat.le_mul_of_pos_right x htp
    have hyn : y ≤ n := by rw [← hyt]; exact Nat.le_mul_of_pos_right y htp
    have htm : t ≤ m := by rw [← hxt]; exact Nat.le_mul_of_pos_left t hx
    have lx := digits_len_mono hxm
    have ly := digits_len_mono hyn
    have lt := digits_len_mono htm
    have k1 := even_n x (by omega)
    have k2 := even_n y (by omega)
    refine AX.seq ?_
    by_cases hev : x % 2 = 0 ∧ y % 2 = 0
    · obtain ⟨h1, h2⟩ := hev
      rw [decide_eq_true h1] at k1
      rw [decide_eq_true h2] at k2
      apply AX.sreg [0, 1, 9, 50] (by simp only [pq]; rfl)
      · repeat (first
       | (apply RunO.op rfl; · rfl
          · rfl
          iterate 2 (· (simp (disch := omega) only [go_sem, i64_of, u32_of, u64_of, Nat.reduceLT, Nat.reduceLeDiff, Nat.reduceEqDiff, Nat.reduceAdd, Nat.reduceSub, Nat.reduceMul, Nat.reducePow, Nat.reduceBEq, Int.reduceLE, Int.reduceLT, Int.reduceToNat, Int.reduceEq, Int.reduceNeg, reduceIte, reduceCtorEq]; rfl))
          · (simp only [pb, Nat.reduceLT, Nat.reduceAdd, reduceIte]; rfl))
       | (apply RunO.call rfl; · rfl
          · rfl
          · (simp (disch := omega) only [go_sem, i64_of, u32_of, u64_of, Nat.reduceLT, Nat.reduceLeDiff, Nat.reduceEqDiff, Nat.reduceAdd, Nat.reduceSub, Nat.reduceMul, Nat.reducePow, Nat.reduceBEq, Int.reduceLE, Int.reduceLT, Int.reduceToNat, Int.reduceEq, Int.reduceNeg, reduceIte, reduceCtorEq]; rfl)
          · rfl
          · (first | exact k1 | exact k2)
          · (simp (disch := omega) only [go_sem, i64_of, u32_of, u64_of, Nat.reduceLT, Nat.reduceLeDiff, Nat.reduceEqDiff, Nat.reduceAdd, Nat.reduceSub, Nat.reduceMul, Nat.reducePow, Nat.reduceBEq, Int.reduceLE, Int.reduceLT, Int.reduceToNat, Int.reduceEq, Int.reduceNeg, reduceIte, reduceCtorEq]; rfl)
          · (simp only [pb, Nat.reduceLT, Nat.reduceAdd, reduceIte]; rfl))
       | (apply RunO.skip; · rfl
          · (simp only [pb, Nat.reduceLT, Nat.reduceAdd, reduceIte]; rfl)))
        exact RunO.nil
      · repeat (first | exact Keep.nil | (apply Keep.take; · rfl) | (apply Keep.drop; · rfl))
      refine AX.cond_true (by simp only [valOf, lkp, if_true, if_false, Nat.reduceEqDiff, reduceIte]) ?_
      apply AX.keep (l := [0, 1, 9])
      · repeat (first | exact Keep.nil | (apply Keep.take; · rfl) | (apply Keep.drop; · rfl))
      refine AX.skip ?_
      try simp only [thenS_normal, thenS_ret, thenS_exit, blockS_normal, blockS_ret, blockS_exit, backS_ret, backS_exit, if_true]
      refine AX.block ?_
      have k3 := half_n x (by omega)
      have k4 := half_n y (by omega)
      have k5 := radd_n t t (by omega) (by omega)
      apply AX.reg [0, 1, 9] (by simp only [pq]; rfl)
      · repeat (first
       | (apply RunO.op rfl; · rfl
          · rfl
          iterate 2 (· (simp (disch := omega) only [go_sem, i64_of, u32_of, u64_of, Nat.reduceLT, Nat.reduceLeDiff, Nat.reduceEqDiff, Nat.reduceAdd, Nat.reduceSub, Nat.reduceMul, Nat.reducePow, Nat.reduceBEq, Int.reduceLE, Int.reduceLT, Int.reduceToNat, Int.reduceEq, Int.reduceNeg, reduceIte, reduceCtorEq]; rfl))
          · (simp only [pb, Nat.reduceLT, Nat.reduceAdd, reduceIte]; rfl))
       | (apply RunO.call rfl; · rfl
          · rfl
          · (simp (disch := omega) only [go_sem, i64_of, u32_of, u64_of, Nat.reduceLT, Nat.reduceLeDiff, Nat.reduceEqDiff, Nat.reduceAdd, Nat.reduceSub, Nat.reduceMul, Nat.reducePow, Nat.reduceBEq, Int.reduceLE, Int.reduceLT, Int.reduceToNat, Int.reduceEq, Int.reduceNeg, reduceIte, reduceCtorEq]; rfl)
          · rfl
          · (first | exact k3 | exact k4 | exact k5)
          · (simp (disch := omega) only [go_sem, i64_of, u32_of, u64_of, Nat.reduceLT, Nat.reduceLeDiff, Nat.reduceEqDiff, Nat.reduceAdd, Nat.reduceSub, Nat.reduceMul, Nat.reducePow, Nat.reduceBEq, Int.reduceLE, Int.reduceLT, Int.reduceToNat, Int.reduceEq, Int.reduceNeg, reduceIte, reduceCtorEq]; rfl)
          · (simp only [pb, Nat.reduceLT, Nat.reduceAdd, reduceIte]; rfl))
       | (apply RunO.skip; · rfl
          · (simp only [pb, Nat.reduceLT, Nat.reduceAdd, reduceIte]; rfl)))
        exact RunO.nil
      · repeat (first | exact Keep.nil | (apply Keep.take; · rfl) | (apply Keep.drop; · rfl))
      try simp only [thenS_normal, thenS_ret, thenS_exit, blockS_normal, blockS_ret, blockS_exit, backS_ret, backS_exit, if_true]
      refine ⟨x / 2, _, id, by omega,
        ⟨by simp only [LeFr, LeHp, lkp, V.ren, V.renL, Row.ren, V.lt, V.ltL, renL_u, ltL_u, List.length_append, List.length_cons, List.length_nil, List.length_set, id_eq, Option.some.injEq, V.i.injEq, V.b.injEq, V.own.injEq, Row.mk.injEq, decide_true, decide_eq_true_eq, true_and, and_true, Bool.and_true, Bool.true_and, if_true, if_false, and_self, Nat.reduceLT, Nat.reduceLeDiff, Nat.reduceEqDiff, Nat.reduceAdd, Nat.reduceSub, Nat.reduceMul, Nat.reducePow, Nat.reduceBEq, Int.reduceLE, Int.reduceLT, Int.reduceToNat, Int.reduceEq, Int.reduceNeg, reduceIte, reduceCtorEq] <;> (first | done | trivial | (and_intros <;> first | trivial | omega | assumption)), by simp only [LeFr, LeHp, lkp, V.ren, V.renL, Row.ren, V.lt, V.ltL, renL_u, ltL_u, List.length_append, List.length_cons, List.length_nil, List.length_set, id_eq, Option.some.injEq, V.i.injEq, V.b.injEq, V.own.injEq, Row.mk.injEq, decide_true, decide_eq_true_eq, true_and, and_true, Bool.and_true, Bool.true_and, if_true, if_false, and_self, Nat.reduceLT, Nat.reduceLeDiff, Nat.reduceEqDiff, Nat.reduceAdd, Nat.reduceSub, Nat.reduceMul, Nat.reducePow, Nat.reduceBEq, Int.reduceLE, Int.reduceLT, Int.reduceToNat, Int.reduceEq, Int.reduceNeg, reduceIte, reduceCtorEq] <;> (first | done | trivial | (and_intros <;> first | trivial | omega | assumption)), by simp [Apart], by first | exact Nat.zero_le _ | simp, by intro n hn; first | rfl | exact absurd hn (Nat.not_lt_zero _)⟩
        , ⟨y / 2, t + t, by omega, by omega, ?_, ?_, rfl⟩⟩
      · rw [← hxt]
        conv => rhs; rw [show x = 2 * (x / 2) by omega]
        rw [← Nat.two_mul, ← Nat.mul_assoc, Nat.mul_comm (x / 2) 2]
      · rw [← hyt]
        conv => rhs; rw [show y = 2 * (y / 2) by omega]
        rw [← Nat.two_mul, ← Nat.mul_assoc, Nat.mul_comm (y / 2) 2]
    · have hod := gcd_odd_not hev
      have hgg : Nat.gcd x y * t = Nat.gcd m n := by rw [← hxt, ← hyt, Nat.gcd_mul_right]
      by_cases h1 : x % 2 = 0
      · have h2 : ¬ y % 2 = 0 := fun h2 => hev ⟨h1, h2⟩
        rw [decide_eq_true h1] at k1
        rw [decide_eq_false h2] at k2
        apply AX.sreg [0, 1, 9, 50] (by simp only [pq]; rfl)
        · repeat (first
         | (apply RunO.op rfl; · rfl
            · rfl
            iterate 2 (· (simp (disch := omega) only [go_sem, i64_of, u32_of, u64_of, Nat.reduceLT, Nat.reduceLeDiff, Nat.reduceEqDiff, Nat.reduceAdd, Nat.reduceSub, Nat.reduceMul, Nat.reducePow, Nat.reduceBEq, Int.reduceLE, Int.reduceLT, Int.reduceToNat, Int.reduceEq, Int.reduceNeg, reduceIte, reduceCtorEq]; rfl))
            · (simp only [pb, Nat.reduceLT, Nat.reduceAdd, reduceIte]; rfl))
         | (apply RunO.call rfl; · rfl
            · rfl
            · (simp (disch := omega) only [go_sem, i64_of, u32_of, u64_of, Nat.reduceLT, Nat.reduceLeDiff, Nat.reduceEqDiff, Nat.reduceAdd, Nat.reduceSub, Nat.reduceMul, Nat.reducePow, Nat.reduceBEq, Int.reduceLE, Int.reduceLT, Int.reduceToNat, Int.reduceEq, Int.reduceNeg, reduceIte, reduceCtorEq]; rfl)
            · rfl
            · (first | exact k1 | exact k2)
            · (simp (disch := omega) only [go_sem, i64_of, u32_of, u64_of, Nat.reduceLT, Nat.reduceLeDiff, Nat.reduceEqDiff, Nat.reduceAdd, Nat.reduceSub, Nat.reduceMul, Nat.reducePow, Nat.reduceBEq, Int.reduceLE, Int.reduceLT, Int.reduceToNat, Int.reduceEq, Int.reduceNeg, reduceIte, reduceCtorEq]; rfl)
            · (simp only [pb, Nat.reduceLT, Nat.reduceAdd, reduceIte]; rfl))
         | (apply RunO.skip; · rfl
            · (simp only [pb, Nat.reduceLT, Nat.reduceAdd, reduceIte]; rfl)))
          exact RunO.nil
        · repeat (first | exact Keep.nil | (apply Keep.take; · rfl) | (apply Keep.drop; · rfl))
        refine AX.cond_false (by simp only [valOf, lkp, if_true, if_false, Nat.reduceEqDiff, reduceIte]) ?_
        apply AX.keep (l := [0, 1, 9])
        · repeat (first | exact Keep.nil | (apply Keep.take; · rfl) | (apply Keep.drop; · rfl))
        refine AX.exit ?_
        try simp only [thenS_normal, thenS_ret, thenS_exit, blockS_normal, blockS_ret, blockS_exit, backS_ret, backS_exit, if_true]
        exact ⟨trivial, x, y, t, hx, hy, hxm, hyn, htm, hod, hgg, rfl⟩
      · rw [decide_eq_false h1] at k1
        apply AX.sreg [0, 1, 9, 50] (by simp only [pq]; rfl)
        · repeat (first
         | (apply RunO.op rfl; · rfl
            · rfl
            iterate 2 (· (simp (disch := omega) only [go_sem, i64_of, u32_of, u64_of, Nat.reduceLT, Nat.reduceLeDiff, Nat.reduceEqDiff, Nat.reduceAdd, Nat.reduceSub, Nat.reduceMul, Nat.reducePow, Nat.reduceBEq, Int.reduceLE, Int.reduceLT, Int.reduceToNat, Int.reduceEq, Int.reduceNeg, reduceIte, reduceCtorEq]; rfl))
            · (simp only [pb, Nat.reduceLT, Nat.reduceAdd, reduceIte]; rfl))
         | (apply RunO.call rfl; · rfl
            · rfl
            · (simp (disch := omega) only [go_sem, i64_of, u32_of, u64_of, Nat.reduceLT, Nat.reduceLeDiff, Nat.reduceEqDiff, Nat.reduceAdd, Nat.reduceSub, Nat.reduceMul, Nat.reducePow, Nat.reduceBEq, Int.reduceLE, Int.reduceLT, Int.reduceToNat, Int.reduceEq, Int.reduceNeg, reduceIte, reduceCtorEq]; rfl)
            · rfl
            · (first | exact k1)
            · (simp (disch := omega) only [go_sem, i64_of, u32_of, u64_of, Nat.reduceLT, Nat.reduceLeDiff, Nat.reduceEqDiff, Nat.reduceAdd, Nat.reduceSub, Nat.reduceMul, Nat.reducePow, Nat.reduceBEq, Int.reduceLE, Int.reduceLT, Int.reduceToNat, Int.reduceEq, Int.reduceNeg, reduceIte, reduceCtorEq]; rfl)
            · (simp only [pb, Nat.reduceLT, Nat.reduceAdd, reduceIte]; rfl))
         | (apply RunO.skip; · rfl
            · (simp only [pb, Nat.reduceLT, Nat.reduceAdd, reduceIte]; rfl)))
          exact RunO.nil
        · repeat (first | exact Keep.nil | (apply Keep.take; · rfl) | (apply Keep.drop; · rfl))
        refine AX.cond_false (by simp only [valOf, lkp, if_true, if_false, Nat.reduceEqDiff, reduceIte]) ?_
        apply AX.keep (l := [0, 1, 9])
        · repeat (first | exact Keep.nil | (apply Keep.take; · rfl) | (apply Keep.drop; · rfl))
        refine AX.exit ?_
        try simp only [thenS_normal, thenS_ret, thenS_exit, blockS_normal, blockS_ret, blockS_exit, backS_ret, backS_exit, if_true]
        exact ⟨trivial, x, y, t, hx, hy, hxm, hyn, htm, hod, hgg, rfl⟩
  rintro st ⟨x, y, t, hx, hy, hxm, hyn, htm, hod, hgg, rfl⟩
  have lt := digits_len_mono htm
  refine AX.seq ?_
  refine AX.block ?_
  refine AX.loop (fun N st => ∃ x y : Nat, N = x + y ∧ 0 < x ∧ x + y ≤ m + n ∧ Nat.gcd x y % 2 = 1 ∧ Nat.gcd x y * t = Nat.gcd m n ∧ st = ⟨[(9, nv t), (1, nv y), (0, nv x)], [], 0⟩) (x + y) ⟨x, y, rfl, hx, by omega, hod, hgg, rfl⟩ ?_
  clear hx hy hxm hyn hod hgg x y
  rintro N st ⟨x, y, rfl, hx, hle, hod, hgg, rfl⟩
  have lx := digits_len_mono (show x ≤ m + n by omega)
  have ly := digits_len_mono (show y ≤ m + n by omega)
  refine AX.seq ?_
  by_cases hy0 : (digits y).length = 0
  · apply AX.sreg [0, 1, 9, 60] (by simp only [pq]; rfl)
    · repeat (first
     | (apply RunO.op rfl; · rfl
        · rfl
        iterate 2 (· (simp (disch := omega) only [go_sem, i64_of, u32_of, u64_of, Nat.reduceLT, Nat.reduceLeDiff, Nat.reduceEqDiff, Nat.reduceAdd, Nat.reduceSub, Nat.reduceMul, Nat.reducePow, Nat.reduceBEq, Int.reduceLE, Int.reduceLT, Int.reduceToNat, Int.reduceEq, Int.reduceNeg, reduceIte, reduceCtorEq]; rfl))
        · (simp only [pb, Nat.reduceLT, Nat.reduceAdd, reduceIte]; rfl))
     | (apply RunO.skip; · rfl
        · (simp only [pb, Nat.reduceLT, Nat.reduceAdd, reduceIte]; rfl)))
      exact RunO.nil
    · repeat (first | exact Keep.nil | (apply Keep.take; · rfl) | (apply Keep.drop; · rfl))
    refine AX.cond_false (by simp only [valOf, lkp, if_true, if_false, Nat.reduceEqDiff, reduceIte]) ?_
    refine AX.exit ?_
    try simp only [thenS_normal, thenS_ret, thenS_exit, blockS_normal, blockS_ret, blockS_exit, backS_ret, backS_exit, if_true]
    have k5 := rmul_n x t (by omega) (by omega)
    rw [digits_len_zero.1 hy0, Nat.gcd_zero_right] at hgg
    rw [← hgg]
    apply AX.sreg [4] (by simp only [pq]; rfl)
    · repeat (first
     | (apply RunO.op rfl; · rfl
        · rfl
        iterate 2 (· (simp (disch := omega) only [go_sem, i64_of, u32_of, u64_of, Nat.reduceLT, Nat.reduceLeDiff, Nat.reduceEqDiff, Nat.reduceAdd, Nat.reduceSub, Nat.reduceMul, Nat.reducePow, Nat.reduceBEq, Int.reduceLE, Int.reduceLT, Int.reduceToNat, Int.reduceEq, Int.reduceNeg, reduceIte, reduceCtorEq]; rfl))
        · (simp only [pb, Nat.reduceLT, Nat.reduceAdd, reduceIte]; rfl))
     | (apply RunO.call rfl; · rfl
        · rfl
        · (simp (disch := omega) only [go_sem, i64_of, u32_of, u64_of, Nat.reduceLT, Nat.reduceLeDiff, Nat.reduceEqDiff, Nat.reduceAdd, Nat.reduceSub, Nat.reduceMul, Nat.reducePow, Nat.reduceBEq, Int.reduceLE, Int.reduceLT, Int.reduceToNat, Int.reduceEq, Int.reduceNeg, reduceIte, reduceCtorEq]; rfl)
        · rfl
        · (first | exact k5)
        · (simp (disch := omega) only [go_sem, i64_of, u32_of, u64_of, Nat.reduceLT, Nat.reduceLeDiff, Nat.reduceEqDiff, Nat.reduceAdd, Nat.reduceSub, Nat.reduceMul, Nat.reducePow, Nat.reduceBEq, Int.reduceLE, Int.reduceLT, Int.reduceToNat, Int.reduceEq, Int.reduceNeg, reduceIte, reduceCtorEq]; rfl)
        · (simp only [pb, Nat.reduceLT, Nat.reduceAdd, reduceIte]; rfl))
     | (apply RunO.skip; · rfl
        · (simp only [pb, Nat.reduceLT, Nat.reduceAdd, reduceIte]; rfl)))
      exact RunO.nil
    · repeat (first | exact Keep.nil | (apply Keep.take; · rfl) | (apply Keep.drop; · rfl))
    refine AX.ret (And.intro (Or.inl rfl) ?_)
    exact Done.sl rfl
  · have hy : 0 < y := Nat.pos_of_ne_zero fun e => hy0 (digits_len_zero.2 e)
    apply AX.sreg [0, 1, 9, 60] (by simp only [pq]; rfl)
    · repeat (first
     | (apply RunO.op rfl; · rfl
        · rfl
        iterate 2 (· (simp (disch := omega) only [go_sem, i64_of, u32_of, u64_of, Nat.reduceLT, Nat.reduceLeDiff, Nat.reduceEqDiff, Nat.reduceAdd, Nat.reduceSub, Nat.reduceMul, Nat.reducePow, Nat.reduceBEq, Int.reduceLE, Int.reduceLT, Int.reduceToNat, Int.reduceEq, Int.reduceNeg, reduceIte, reduceCtorEq]; rfl))
        · (simp only [pb, Nat.reduceLT, Nat.reduceAdd, reduceIte]; rfl))
     | (apply RunO.skip; · rfl
        · (simp only [pb, Nat.reduceLT, Nat.reduceAdd, reduceIte]; rfl)))
      exact RunO.nil
    · repeat (first | exact Keep.nil | (apply Keep.take; · rfl) | (apply Keep.drop; · rfl))
    refine AX.cond_true (by simp only [valOf, lkp, if_true, if_false, Nat.reduceEqDiff, reduceIte]) ?_
    apply AX.keep (l := [0, 1, 9])
    · repeat (first | exact Keep.nil | (apply Keep.take; · rfl) | (apply Keep.drop; · rfl))
    refine AX.skip ?_
    try simp only [thenS_normal, thenS_ret, thenS_exit, blockS_normal, blockS_ret, blockS_exit, backS_ret, backS_exit, if_true]
    refine AX.block ?_
    refine AX.cut (fun st => ∃ x' : Nat, 0 < x' ∧ x' ≤ x ∧ Nat.gcd x' y = Nat.gcd x y ∧ st = ⟨[(9, nv t), (1, nv y), (0, nv x')], [], 0⟩) ?_ ?_
    · refine AX.block ?_
      refine AX.loop (fun N st => 0 < N ∧ N ≤ x ∧ Nat.gcd N y = Nat.gcd x y ∧ st = ⟨[(9, nv t), (1, nv y), (0, nv N)], [], 0⟩) x ⟨hx, Nat.le_refl _, rfl, rfl⟩ ?_
      rintro z st ⟨hz, hzx, hg, rfl⟩
      have lz := digits_len_mono (show z ≤ m + n by omega)
      have k1 := even_n z (by omega)
      refine AX.seq ?_
      by_cases h1 : z % 2 = 0
      · rw [decide_eq_true h1] at k1
        have k3 := half_n z (by omega)
        apply AX.sreg [0, 1, 9, 62] (by simp only [pq]; rfl)
        · repeat (first
         | (apply RunO.op rfl; · rfl
            · rfl
            iterate 2 (· (simp (disch := omega) only [go_sem, i64_of, u32_of, u64_of, Nat.reduceLT, Nat.reduceLeDiff, Nat.reduceEqDiff, Nat.reduceAdd, Nat.reduceSub, Nat.reduceMul, Nat.reducePow, Nat.reduceBEq, Int.reduceLE, Int.reduceLT, Int.reduceToNat, Int.reduceEq, Int.reduceNeg, reduceIte, reduceCtorEq]; rfl))
            · (simp only [pb, Nat.reduceLT, Nat.reduceAdd, reduceIte]; rfl))
         | (apply RunO.call rfl; · rfl
            · rfl
            · (simp (disch := omega) only [go_sem, i64_of, u32_of, u64_of, Nat.reduceLT, Nat.reduceLeDiff, Nat.reduceEqDiff, Nat.reduceAdd, Nat.reduceSub, Nat.reduceMul, Nat.reducePow, Nat.reduceBEq, Int.reduceLE, Int.reduceLT, Int.reduceToNat, Int.reduceEq, Int.reduceNeg, reduceIte, reduceCtorEq]; rfl)
            · rfl
            · (first | exact k1)
            · (simp (disch := omega) only [go_sem, i64_of, u32_of, u64_of, Nat.reduceLT, Nat.reduceLeDiff, Nat.reduceEqDiff, Nat.reduceAdd, Nat.reduceSub, Nat.reduceMul, Nat.reducePow, Nat.reduceBEq, Int.reduceLE, Int.reduceLT, Int.reduceToNat, Int.reduceEq, Int.reduceNeg, reduceIte, reduceCtorEq]; rfl)
            · (simp only [pb, Nat.reduceLT, Nat.reduceAdd, reduceIte]; rfl))
         | (apply RunO.skip; · rfl
            · (simp only [pb, Nat.reduceLT, Nat.reduceAdd, reduceIte]; rfl)))
          exact RunO.nil
        · repeat (first | exact Keep.nil | (apply Keep.take; · rfl) | (apply Keep.drop; · rfl))
        refine AX.cond_true (by simp only [valOf, lkp, if_true, if_false, Nat.reduceEqDiff, reduceIte]) ?_
        apply AX.keep (l := [0, 1, 9])
        · repeat (first | exact Keep.nil | (apply Keep.take; · rfl) | (apply Keep.drop; · rfl))
        refine AX.skip ?_
        try simp only [thenS_normal, thenS_ret, thenS_exit, blockS_normal, blockS_ret, blockS_exit, backS_ret, backS_exit, if_true]
        refine AX.block ?_
        apply AX.reg [0, 1, 9] (by simp only [pq]; rfl)
        · repeat (first
         | (apply RunO.op rfl; · rfl
            · rfl
            iterate 2 (· (simp (disch := omega) only [go_sem, i64_of, u32_of, u64_of, Nat.reduceLT, Nat.reduceLeDiff, Nat.reduceEqDiff, Nat.reduceAdd, Nat.reduceSub, Nat.reduceMul, Nat.reducePow, Nat.reduceBEq, Int.reduceLE, Int.reduceLT, Int.reduceToNat, Int.reduceEq, Int.reduceNeg, reduceIte, reduceCtorEq]; rfl))
            · (simp only [pb, Nat.reduceLT, Nat.reduceAdd, reduceIte]; rfl))
         | (apply RunO.call rfl; · rfl
            · rfl
            · (simp (disch := omega) only [go_sem, i64_of, u32_of, u64_of, Nat.reduceLT, Nat.reduceLeDiff, Nat.reduceEqDiff, Nat.reduceAdd, Nat.reduceSub, Nat.reduceMul, Nat.reducePow, Nat.reduceBEq, Int.reduceLE, Int.reduceLT, Int.reduceToNat, Int.reduceEq, Int.reduceNeg, reduceIte, reduceCtorEq]; rfl)
            · rfl
            · (first | exact k3)
            · (simp (disch := omega) only [go_sem, i64_of, u32_of, u64_of, Nat.reduceLT, Nat.reduceLeDiff, Nat.reduceEqDiff, Nat.reduceAdd, Nat.reduceSub, Nat.reduceMul, Nat.reducePow, Nat.reduceBEq, Int.reduceLE, Int.reduceLT, Int.reduceToNat, Int.reduceEq, Int.reduceNeg, reduceIte, reduceCtorEq]; rfl)
            · (simp only [pb, Nat.reduceLT, Nat.reduceAdd, reduceIte]; rfl))
         | (apply RunO.skip; · rfl
            · (simp only [pb, Nat.reduceLT, Nat.reduceAdd, reduceIte]; rfl)))
          exact RunO.nil
        · repeat (first | exact Keep.nil | (apply Keep.take; · rfl) | (apply Keep.drop; · rfl))
        try simp only [thenS_normal, thenS_ret, thenS_exit, blockS_normal, blockS_ret, blockS_exit, backS_ret, backS_exit, if_true]
        refine ⟨z / 2, _, id, by omega,
          ⟨by simp only [LeFr, LeHp, lkp, V.ren, V.renL, Row.ren, V.lt, V.ltL, renL_u, ltL_u, List.length_append, List.length_cons, List.length_nil, List.length_set, id_eq, Option.some.injEq, V.i.injEq, V.b.injEq, V.own.injEq, Row.mk.injEq, decide_true, decide_eq_true_eq, true_and, and_true, Bool.and_true, Bool.true_and, if_true, if_false, and_self, Nat.reduceLT, Nat.reduceLeDiff, Nat.reduceEqDiff, Nat.reduceAdd, Nat.reduceSub, Nat.reduceMul, Nat.reducePow, Nat.reduceBEq, Int.reduceLE, Int.reduceLT, Int.reduceToNat, Int.reduceEq, Int.reduceNeg, reduceIte, reduceCtorEq] <;> (first | done | trivial | (and_intros <;> first | trivial | omega | assumption)), by simp only [LeFr, LeHp, lkp, V.ren, V.renL, Row.ren, V.lt, V.ltL, renL_u, ltL_u, List.length_append, List.length_cons, List.length_nil, List.length_set, id_eq, Option.some.injEq, V.i.injEq, V.b.injEq, V.own.injEq, Row.mk.injEq, decide_true, decide_eq_true_eq, true_and, and_true, Bool.and_true, Bool.true_and, if_true, if_false, and_self, Nat.reduceLT, Nat.reduceLeDiff, Nat.reduceEqDiff, Nat.reduceAdd, Nat.reduceSub, Nat.reduceMul, Nat.reducePow, Nat.reduceBEq, Int.reduceLE, Int.reduceLT, Int.reduceToNat, Int.reduceEq, Int.reduceNeg, reduceIte, reduceCtorEq] <;> (first | done | trivial | (and_intros <;> first | trivial | omega | assumption)), by simp [Apart], by first | exact Nat.zero_le _ | simp, by intro n hn; first | rfl | exact absurd hn (Nat.not_lt_zero _)⟩
          , by omega, by omega, by rw [gcd_even_left h1 (by rw [hg]; exact hod), hg], rfl⟩
      · rw [decide_eq_false h1] at k1
        apply AX.sreg [0, 1, 9, 62] (by simp only [pq]; rfl)
        · repeat (first
         | (apply RunO.op rfl; · rfl
            · rfl
            iterate 2 (· (simp (disch := omega) only [go_sem, i64_of, u32_of, u64_of, Nat.reduceLT, Nat.reduceLeDiff, Nat.reduceEqDiff, Nat.reduceAdd, Nat.reduceSub, Nat.reduceMul, Nat.reducePow, Nat.reduceBEq, Int.reduceLE, Int.reduceLT, Int.reduceToNat, Int.reduceEq, Int.reduceNeg, reduceIte, reduceCtorEq]; rfl))
            · (simp only [pb, Nat.reduceLT, Nat.reduceAdd, reduceIte]; rfl))
         | (apply RunO.call rfl; · rfl
            · rfl
            · (simp (disch := omega) only [go_sem, i64_of, u32_of, u64_of, Nat.reduceLT, Nat.reduceLeDiff, Nat.reduceEqDiff, Nat.reduceAdd, Nat.reduceSub, Nat.reduceMul, Nat.reducePow, Nat.reduceBEq, Int.reduceLE, Int.reduceLT, Int.reduceToNat, Int.reduceEq, Int.reduceNeg, reduceIte, reduceCtorEq]; rfl)
            · rfl
            · (first | exact k1)
            · (simp (disch := omega) only [go_sem, i64_of, u32_of, u64_of, Nat.reduceLT, Nat.reduceLeDiff, Nat.reduceEqDiff, Nat.reduceAdd, Nat.reduceSub, Nat.reduceMul, Nat.reducePow, Nat.reduceBEq, Int.reduceLE, Int.reduceLT, Int.reduceToNat, Int.reduceEq, Int.reduceNeg, reduceIte, reduceCtorEq]; rfl)
            · (simp only [pb, Nat.reduceLT, Nat.reduceAdd, reduceIte]; rfl))
         | (apply RunO.skip; · rfl
            · (simp only [pb, Nat.reduceLT, Nat.reduceAdd, reduceIte]; rfl)))
          exact RunO.nil
        · repeat (first | exact Keep.nil | (apply Keep.take; · rfl) | (apply Keep.drop; · rfl))
        refine AX.cond_false (by simp only [valOf, lkp, if_true, if_false, Nat.reduceEqDiff, reduceIte]) ?_
        apply AX.keep (l := [0, 1, 9])
        · repeat (first | exact Keep.nil | (apply Keep.take; · rfl) | (apply Keep.drop; · rfl))
        refine AX.exit ?_
        try simp only [thenS_normal, thenS_ret, thenS_exit, blockS_normal, blockS_ret, blockS_exit, backS_ret, backS_exit, if_true]
        exact ⟨trivial, z, hz, hzx, hg, rfl⟩
    rintro st ⟨x', hx', hxx, hgx, rfl⟩
    refine AX.cut (fun st => ∃ y' : Nat, 0 < y' ∧ y' ≤ y ∧ Nat.gcd x' y' = Nat.gcd x y ∧ st = ⟨[(9, nv t), (1, nv y'), (0, nv x')], [], 0⟩) ?_ ?_
    · refine AX.block ?_
      refine AX.loop (fun N st => 0 < N ∧ N ≤ y ∧ Nat.gcd x' N = Nat.gcd x y ∧ st = ⟨[(9, nv t), (1, nv N), (0, nv x')], [], 0⟩) y ⟨hy, Nat.le_refl _, hgx, rfl⟩ ?_
      rintro z st ⟨hz, hzx, hg, rfl⟩
      have lz := digits_len_mono (show z ≤ m + n by omega)
      have k1 := even_n z (by omega)
      refine AX.seq ?_
      by_cases h1 : z % 2 = 0
      · rw [decide_eq_true h1] at k1
        have k3 := half_n z (by omega)
        apply AX.sreg [0, 1, 9, 66] (by simp only [pq]; rfl)
        · repeat (first
         | (apply RunO.op rfl; · rfl
            · rfl
            iterate 2 (· (simp (disch := omega) only [go_sem, i64_of, u32_of, u64_of, Nat.reduceLT, Nat.reduceLeDiff, Nat.reduceEqDiff, Nat.reduceAdd, Nat.reduceSub, Nat.reduceMul, Nat.reducePow, Nat.reduceBEq, Int.reduceLE, Int.reduceLT, Int.reduceToNat, Int.reduceEq, Int.reduceNeg, reduceIte, reduceCtorEq]; rfl))
            · (simp only [pb, Nat.reduceLT, Nat.reduceAdd, reduceIte]; rfl))
         | (apply RunO.call rfl; · rfl
            · rfl
            · (simp (disch := omega) only [go_sem, i64_of, u32_of, u64_of, Nat.reduceLT, Nat.reduceLeDiff, Nat.reduceEqDiff, Nat.reduceAdd, Nat.reduceSub, Nat.reduceMul, Nat.reducePow, Nat.reduceBEq, Int.reduceLE, Int.reduceLT, Int.reduceToNat, Int.reduceEq, Int.reduceNeg, reduceIte, reduceCtorEq]; rfl)
            · rfl
            · (first | exact k1)
            · (simp (disch := omega) only [go_sem, i64_of, u32_of, u64_of, Nat.reduceLT, Nat.reduceLeDiff, Nat.reduceEqDiff, Nat.reduceAdd, Nat.reduceSub, Nat.reduceMul, Nat.reducePow, Nat.reduceBEq, Int.reduceLE, Int.reduceLT, Int.reduceToNat, Int.reduceEq, Int.reduceNeg, reduceIte, reduceCtorEq]; rfl)
            · (simp only [pb, Nat.reduceLT, Nat.reduceAdd, reduceIte]; rfl))
         | (apply RunO.skip; · rfl
            · (simp only [pb, Nat.reduceLT, Nat.reduceAdd, reduceIte]; rfl)))
          exact RunO.nil
        · repeat (first | exact Keep.nil | (apply Keep.take; · rfl) | (apply Keep.drop; · rfl))
        refine AX.cond_true (by simp only [valOf, lkp, if_true, if_false, Nat.reduceEqDiff, reduceIte]) ?_
        apply AX.keep (l := [0, 1, 9])
        · repeat (first | exact Keep.nil | (apply Keep.take; · rfl) | (apply Keep.drop; · rfl))
        refine AX.skip ?_
        try simp only [thenS_normal, thenS_ret, thenS_exit, blockS_normal, blockS_ret, blockS_exit, backS_ret, backS_exit, if_true]
        refine AX.block ?_
        apply AX.reg [0, 1, 9] (by simp only [pq]; rfl)
        · repeat (first
         | (apply RunO.op rfl; · rfl
            · rfl
            iterate 2 (· (simp (disch := omega) only [go_sem, i64_of, u32_of, u64_of, Nat.reduceLT, Nat.reduceLeDiff, Nat.reduceEqDiff, Nat.reduceAdd, Nat.reduceSub, Nat.reduceMul, Nat.reducePow, Nat.reduceBEq, Int.reduceLE, Int.reduceLT, Int.reduceToNat, Int.reduceEq, Int.reduceNeg, reduceIte, reduceCtorEq]; rfl))
            · (simp only [pb, Nat.reduceLT, Nat.reduceAdd, reduceIte]; rfl))
         | (apply RunO.call rfl; · rfl
            · rfl
            · (simp (disch := omega) only [go_sem, i64_of, u32_of, u64_of, Nat.reduceLT, Nat.reduceLeDiff, Nat.reduceEqDiff, Nat.reduceAdd, Nat.reduceSub, Nat.reduceMul, Nat.reducePow, Nat.reduceBEq, Int.reduceLE, Int.reduceLT, Int.reduceToNat, Int.reduceEq, Int.reduceNeg, reduceIte, reduceCtorEq]; rfl)
            · rfl
            · (first | exact k3)
            · (simp (disch := omega) only [go_sem, i64_of, u32_of, u64_of, Nat.reduceLT, Nat.reduceLeDiff, Nat.reduceEqDiff, Nat.reduceAdd, Nat.reduceSub, Nat.reduceMul, Nat.reducePow, Nat.reduceBEq, Int.reduceLE, Int.reduceLT, Int.reduceToNat, Int.reduceEq, Int.reduceNeg, reduceIte, reduceCtorEq]; rfl)
            · (simp only [pb, Nat.reduceLT, Nat.reduceAdd, reduceIte]; rfl))
         | (apply RunO.skip; · rfl
            · (simp only [pb, Nat.reduceLT, Nat.reduceAdd, reduceIte]; rfl)))
          exact RunO.nil
        · repeat (first | exact Keep.nil | (apply Keep.take; · rfl) | (apply Keep.drop; · rfl))
        try simp only [thenS_normal, thenS_ret, thenS_exit, blockS_normal, blockS_ret, blockS_exit, backS_ret, backS_exit, if_true]
        refine ⟨z / 2, _, id, by omega,
          ⟨by simp only [LeFr, LeHp, lkp, V.ren, V.renL, Row.ren, V.lt, V.ltL, renL_u, ltL_u, List.length_append, List.length_cons, List.length_nil, List.length_set, id_eq, Option.some.injEq, V.i.injEq, V.b.injEq, V.own.injEq, Row.mk.injEq, decide_true, decide_eq_true_eq, true_and, and_true, Bool.and_true, Bool.true_and, if_true, if_false, and_self, Nat.reduceLT, Nat.reduceLeDiff, Nat.reduceEqDiff, Nat.reduceAdd, Nat.reduceSub, Nat.reduceMul, Nat.reducePow, Nat.reduceBEq, Int.reduceLE, Int.reduceLT, Int.reduceToNat, Int.reduceEq, Int.reduceNeg, reduceIte, reduceCtorEq] <;> (first | done | trivial | (and_intros <;> first | trivial | omega | assumption)), by simp only [LeFr, LeHp, lkp, V.ren, V.renL, Row.ren, V.lt, V.ltL, renL_u, ltL_u, List.length_append, List.length_cons, List.length_nil, List.length_set, id_eq, Option.some.injEq, V.i.injEq, V.b.injEq, V.own.injEq, Row.mk.injEq, decide_true, decide_eq_true_eq, true_and, and_true, Bool.and_true, Bool.true_and, if_true, if_false, and_self, Nat.reduceLT, Nat.reduceLeDiff, Nat.reduceEqDiff, Nat.reduceAdd, Nat.reduceSub, Nat.reduceMul, Nat.reducePow, Nat.reduceBEq, Int.reduceLE, Int.reduceLT, Int.reduceToNat, Int.reduceEq, Int.reduceNeg, reduceIte, reduceCtorEq] <;> (first | done | trivial | (and_intros <;> first | trivial | omega | assumption)), by simp [Apart], by first | exact Nat.zero_le _ | simp, by intro n hn; first | rfl | exact absurd hn (Nat.not_lt_zero _)⟩
          , by omega, by omega, by rw [gcd_even_right h1 (by rw [hg]; exact hod), hg], rfl⟩
      · rw [decide_eq_false h1] at k1
        apply AX.sreg [0, 1, 9, 66] (by simp only [pq]; rfl)
        · repeat (first
         | (apply RunO.op rfl; · rfl
            · rfl
            iterate 2 (· (simp (disch := omega) only [go_sem, i64_of, u32_of, u64_of, Nat.reduceLT, Nat.reduceLeDiff, Nat.reduceEqDiff, Nat.reduceAdd, Nat.reduceSub, Nat.reduceMul, Nat.reducePow, Nat.reduceBEq, Int.reduceLE, Int.reduceLT, Int.reduceToNat, Int.reduceEq, Int.reduceNeg, reduceIte, reduceCtorEq]; rfl))
            · (simp only [pb, Nat.reduceLT, Nat.reduceAdd, reduceIte]; rfl))
         | (apply RunO.call rfl; · rfl
            · rfl
            · (simp (disch := omega) only [go_sem, i64_of, u32_of, u64_of, Nat.reduceLT, Nat.reduceLeDiff, Nat.reduceEqDiff, Nat.reduceAdd, Nat.reduceSub, Nat.reduceMul, Nat.reducePow, Nat.reduceBEq, Int.reduceLE, Int.reduceLT, Int.reduceToNat, Int.reduceEq, Int.reduceNeg, reduceIte, reduceCtorEq]; rfl)
            · rfl
            · (first | exact k1)
            · (simp (disch := omega) only [go_sem, i64_of, u32_of, u64_of, Nat.reduceLT, Nat.reduceLeDiff, Nat.reduceEqDiff, Nat.reduceAdd, Nat.reduceSub, Nat.reduceMul, Nat.reducePow, Nat.reduceBEq, Int.reduceLE, Int.reduceLT, Int.reduceToNat, Int.reduceEq, Int.reduceNeg, reduceIte, reduceCtorEq]; rfl)
            · (simp only [pb, Nat.reduceLT, Nat.reduceAdd, reduceIte]; rfl))
         | (apply RunO.skip; · rfl
            · (simp only [pb, Nat.reduceLT, Nat.reduceAdd, reduceIte]; rfl)))
          exact RunO.nil
        · repeat (first | exact Keep.nil | (apply Keep.take; · rfl) | (apply Keep.drop; · rfl))
        refine AX.cond_false (by simp only [valOf, lkp, if_true, if_false, Nat.reduceEqDiff, reduceIte]) ?_
        apply AX.keep (l := [0, 1, 9])
        · repeat (first | exact Keep.nil | (apply Keep.take; · rfl) | (apply Keep.drop; · rfl))
        refine AX.exit ?_
        try simp only [thenS_normal, thenS_ret, thenS_exit, blockS_normal, blockS_ret, blockS_exit, backS_ret, backS_exit, if_true]
        exact ⟨trivial, z, hz, hzx, hg, rfl⟩
    rintro st ⟨y', hy', hyy, hgy, rfl⟩
    have lx' := digits_len_mono (show x' ≤ m + n by omega)
    have ly' := digits_len_mono (show y' ≤ m + n by omega)
    refine AX.cut (fun st => ∃ p q : Nat, 0 < p ∧ p ≤ q ∧ p + q = x' + y' ∧ Nat.gcd p q = Nat.gcd x y ∧ Le 0 id ⟨[(9, nv t), (1, nv q), (0, nv p)], [], 0⟩ st) ?_ ?_
    · have k1 := rcmp_n x' y' (by omega) (by omega)
      by_cases h : y' < x'
      · rw [cmp_gt h] at k1
        apply AX.sreg [0, 1, 9, 72] (by simp only [pq]; rfl)
        · repeat (first
         | (apply RunO.op rfl; · rfl
            · rfl
            iterate 2 (· (simp (disch := omega) only [go_sem, i64_of, u32_of, u64_of, Nat.reduceLT, Nat.reduceLeDiff, Nat.reduceEqDiff, Nat.reduceAdd, Nat.reduceSub, Nat.reduceMul, Nat.reducePow, Nat.reduceBEq, Int.reduceLE, Int.reduceLT, Int.reduceToNat, Int.reduceEq, Int.reduceNeg, reduceIte, reduceCtorEq]; rfl))
            · (simp only [pb, Nat.reduceLT, Nat.reduceAdd, reduceIte]; rfl))
         | (apply RunO.call rfl; · rfl
            · rfl
            · (simp (disch := omega) only [go_sem, i64_of, u32_of, u64_of, Nat.reduceLT, Nat.reduceLeDiff, Nat.reduceEqDiff, Nat.reduceAdd, Nat.reduceSub, Nat.reduceMul, Nat.reducePow, Nat.reduceBEq, Int.reduceLE, Int.reduceLT, Int.reduceToNat, Int.reduceEq, Int.reduceNeg, reduceIte, reduceCtorEq]; rfl)
            · rfl
            · (first | exact k1)
            · (simp (disch := omega) only [go_sem, i64_of, u32_of, u64_of, Nat.reduceLT, Nat.reduceLeDiff, Nat.reduceEqDiff, Nat.reduceAdd, Nat.reduceSub, Nat.reduceMul, Nat.reducePow, Nat.reduceBEq, Int.reduceLE, Int.reduceLT, Int.reduceToNat, Int.reduceEq, Int.reduceNeg, reduceIte, reduceCtorEq]; rfl)
            · (simp only [pb, Nat.reduceLT, Nat.reduceAdd, reduceIte]; rfl))
         | (apply RunO.skip; · rfl
            · (simp only [pb, Nat.reduceLT, Nat.reduceAdd, reduceIte]; rfl)))
          exact RunO.nil
        · repeat (first | exact Keep.nil | (apply Keep.take; · rfl) | (apply Keep.drop; · rfl))
        refine AX.cond_true (by simp only [valOf, lkp, if_true, if_false, Nat.reduceEqDiff, reduceIte]) ?_
        apply AX.keep (l := [0, 1, 9])
        · repeat (first | exact Keep.nil | (apply Keep.take; · rfl) | (apply Keep.drop; · rfl))
        apply AX.reg [0, 1, 9] (by simp only [pq]; rfl)
        · repeat (first
         | (apply RunO.op rfl; · rfl
            · rfl
            iterate 2 (· (simp (disch := omega) only [go_sem, i64_of, u32_of, u64_of, Nat.reduceLT, Nat.reduceLeDiff, Nat.reduceEqDiff, Nat.reduceAdd, Nat.reduceSub, Nat.reduceMul, Nat.reducePow, Nat.reduceBEq, Int.reduceLE, Int.reduceLT, Int.reduceToNat, Int.reduceEq, Int.reduceNeg, reduceIte, reduceCtorEq]; rfl))
            · (simp only [pb, Nat.reduceLT, Nat.reduceAdd, reduceIte]; rfl))
         | (apply RunO.skip; · rfl
            · (simp only [pb, Nat.reduceLT, Nat.reduceAdd, reduceIte]; rfl)))
          exact RunO.nil
        · repeat (first | exact Keep.nil | (apply Keep.take; · rfl) | (apply Keep.drop; · rfl))
        refine ⟨rfl, y', x', hy', by omega, by omega, by rw [Nat.gcd_comm, hgy],
          ⟨by simp only [LeFr, LeHp, lkp, V.ren, V.renL, Row.ren, V.lt, V.ltL, renL_u, ltL_u, List.length_append, List.length_cons, List.length_nil, List.length_set, id_eq, Option.some.injEq, V.i.injEq, V.b.injEq, V.own.injEq, Row.mk.injEq, decide_true, decide_eq_true_eq, true_and, and_true, Bool.and_true, Bool.true_and, if_true, if_false, and_self, Nat.reduceLT, Nat.reduceLeDiff, Nat.reduceEqDiff, Nat.reduceAdd, Nat.reduceSub, Nat.reduceMul, Nat.reducePow, Nat.reduceBEq, Int.reduceLE, Int.reduceLT, Int.reduceToNat, Int.reduceEq, Int.reduceNeg, reduceIte, reduceCtorEq] <;> (first | done | trivial | (and_intros <;> first | trivial | omega | assumption)), by simp only [LeFr, LeHp, lkp, V.ren, V.renL, Row.ren, V.lt, V.ltL, renL_u, ltL_u, List.length_append, List.length_cons, List.length_nil, List.length_set, id_eq, Option.some.injEq, V.i.injEq, V.b.injEq, V.own.injEq, Row.mk.injEq, decide_true, decide_eq_true_eq, true_and, and_true, Bool.and_true, Bool.true_and, if_true, if_false, and_self, Nat.reduceLT, Nat.reduceLeDiff, Nat.reduceEqDiff, Nat.reduceAdd, Nat.reduceSub, Nat.reduceMul, Nat.reducePow, Nat.reduceBEq, Int.reduceLE, Int.reduceLT, Int.reduceToNat, Int.reduceEq, Int.reduceNeg, reduceIte, reduceCtorEq] <;> (first | done | trivial | (and_intros <;> first | trivial | omega | assumption)), by simp [Apart], by first | exact Nat.zero_le _ | simp, by intro n hn; first | rfl | exact absurd hn (Nat.not_lt_zero _)⟩
          ⟩
      · have hc : ¬ 0 < cmp x' y' := by
          unfold cmp
          split
          · omega
          · rw [if_pos (by omega)]; omega
        generalize cmp x' y' = z at *
        apply AX.sreg [0, 1, 9, 72] (by simp only [pq]; rfl)
        · repeat (first
         | (apply RunO.op rfl; · rfl
            · rfl
            iterate 2 (· (simp (disch := omega) only [go_sem, i64_of, u32_of, u64_of, Nat.reduceLT, Nat.reduceLeDiff, Nat.reduceEqDiff, Nat.reduceAdd, Nat.reduceSub, Nat.reduceMul, Nat.reducePow, Nat.reduceBEq, Int.reduceLE, Int.reduceLT, Int.reduceToNat, Int.reduceEq, Int.reduceNeg, reduceIte, reduceCtorEq]; rfl))
            · (simp only [pb, Nat.reduceLT, Nat.reduceAdd, reduceIte]; rfl))
         | (apply RunO.call rfl; · rfl
            · rfl
            · (simp (disch := omega) only [go_sem, i64_of, u32_of, u64_of, Nat.reduceLT, Nat.reduceLeDiff, Nat.reduceEqDiff, Nat.reduceAdd, Nat.reduceSub, Nat.reduceMul, Nat.reducePow, Nat.reduceBEq, Int.reduceLE, Int.reduceLT, Int.reduceToNat, Int.reduceEq, Int.reduceNeg, reduceIte, reduceCtorEq]; rfl)
            · rfl
            · (first | exact k1)
            · (simp (disch := omega) only [go_sem, i64_of, u32_of, u64_of, Nat.reduceLT, Nat.reduceLeDiff, Nat.reduceEqDiff, Nat.reduceAdd, Nat.reduceSub, Nat.reduceMul, Nat.reducePow, Nat.reduceBEq, Int.reduceLE, Int.reduceLT, Int.reduceToNat, Int.reduceEq, Int.reduceNeg, reduceIte, reduceCtorEq]; rfl)
            · (simp only [pb, Nat.reduceLT, Nat.reduceAdd, reduceIte]; rfl))
         | (apply RunO.skip; · rfl
            · (simp only [pb, Nat.reduceLT, Nat.reduceAdd, reduceIte]; rfl)))
          exact RunO.nil
        · repeat (first | exact Keep.nil | (apply Keep.take; · rfl) | (apply Keep.drop; · rfl))
        refine AX.cond_false (by simp only [valOf, lkp, if_true, if_false, Nat.reduceEqDiff, reduceIte]) ?_
        apply AX.keep (l := [0, 1, 9])
        · repeat (first | exact Keep.nil | (apply Keep.take; · rfl) | (apply Keep.drop; · rfl))
        refine AX.skip ?_
        refine ⟨rfl, x', y', hx', by omega, by omega, hgy,
          ⟨by simp only [LeFr, LeHp, lkp, V.ren, V.renL, Row.ren, V.lt, V.ltL, renL_u, ltL_u, List.length_append, List.length_cons, List.length_nil, List.length_set, id_eq, Option.some.injEq, V.i.injEq, V.b.injEq, V.own.injEq, Row.mk.injEq, decide_true, decide_eq_true_eq, true_and, and_true, Bool.and_true, Bool.true_and, if_true, if_false, and_self, Nat.reduceLT, Nat.reduceLeDiff, Nat.reduceEqDiff, Nat.reduceAdd, Nat.reduceSub, Nat.reduceMul, Nat.reducePow, Nat.reduceBEq, Int.reduceLE, Int.reduceLT, Int.reduceToNat, Int.reduceEq, Int.reduceNeg, reduceIte, reduceCtorEq] <;> (first | done | trivial | (and_intros <;> first | trivial | omega | assumption)), by simp only [LeFr, LeHp, lkp, V.ren, V.renL, Row.ren, V.lt, V.ltL, renL_u, ltL_u, List.length_append, List.length_cons, List.length_nil, List.length_set, id_eq, Option.some.injEq, V.i.injEq, V.b.injEq, V.own.injEq, Row.mk.injEq, decide_true, decide_eq_true_eq, true_and, and_true, Bool.and_true, Bool.true_and, if_true, if_false, and_self, Nat.reduceLT, Nat.reduceLeDiff, Nat.reduceEqDiff, Nat.reduceAdd, Nat.reduceSub, Nat.reduceMul, Nat.reducePow, Nat.reduceBEq, Int.reduceLE, Int.reduceLT, Int.reduceToNat, Int.reduceEq, Int.reduceNeg, reduceIte, reduceCtorEq] <;> (first | done | trivial | (and_intros <;> first | trivial | omega | assumption)), by simp [Apart], by first | exact Nat.zero_le _ | simp, by intro n hn; first | rfl | exact absurd hn (Nat.not_lt_zero _)⟩
          ⟩
    rintro st ⟨p, q, hp, hpq, hsum', hgp, hle'⟩
    refine AX.weaken id hle' ?_
    have lp := digits_len_mono (show p ≤ m + n by omega)
    have lq := digits_len_mono (show q ≤ m + n by omega)
    have k2 := rsub_n q p (by omega) (by omega)
    apply AX.reg [0, 1, 9] (by simp only [pq]; rfl)
    · repeat (first
     | (apply RunO.op rfl; · rfl
        · rfl
        iterate 2 (· (simp (disch := omega) only [go_sem, i64_of, u32_of, u64_of, Nat.reduceLT, Nat.reduceLeDiff, Nat.reduceEqDiff, Nat.reduceAdd, Nat.reduceSub, Nat.reduceMul, Nat.reducePow, Nat.reduceBEq, Int.reduceLE, Int.reduceLT, Int.reduceToNat, Int.reduceEq, Int.reduceNeg, reduceIte, reduceCtorEq]; rfl))
        · (simp only [pb, Nat.reduceLT, Nat.reduceAdd, reduceIte]; rfl))
     | (apply RunO.call rfl; · rfl
        · rfl
        · (simp (disch := omega) only [go_sem, i64_of, u32_of, u64_of, Nat.reduceLT, Nat.reduceLeDiff, Nat.reduceEqDiff, Nat.reduceAdd, Nat.reduceSub, Nat.reduceMul, Nat.reducePow, Nat.reduceBEq, Int.reduceLE, Int.reduceLT, Int.reduceToNat, Int.reduceEq, Int.reduceNeg, reduceIte, reduceCtorEq]; rfl)
        · rfl
        · (first | exact k2)
        · (simp (disch := omega) only [go_sem, i64_of, u32_of, u64_of, Nat.reduceLT, Nat.reduceLeDiff, Nat.reduceEqDiff, Nat.reduceAdd, Nat.reduceSub, Nat.reduceMul, Nat.reducePow, Nat.reduceBEq, Int.reduceLE, Int.reduceLT, Int.reduceToNat, Int.reduceEq, Int.reduceNeg, reduceIte, reduceCtorEq]; rfl)
        · (simp only [pb, Nat.reduceLT, Nat.reduceAdd, reduceIte]; rfl))
     | (apply RunO.skip; · rfl
        · (simp only [pb, Nat.reduceLT, Nat.reduceAdd, reduceIte]; rfl)))
      exact RunO.nil
    · repeat (first | exact Keep.nil | (apply Keep.take; · rfl) | (apply Keep.drop; · rfl))
    try simp only [thenS_normal, thenS_ret, thenS_exit, blockS_normal, blockS_ret, blockS_exit, backS_ret, backS_exit, if_true]
    refine ⟨p + (q - p), _, id, by omega,
      ⟨by simp only [LeFr, LeHp, lkp, V.ren, V.renL, Row.ren, V.lt, V.ltL, renL_u, ltL_u, List.length_append, List.length_cons, List.length_nil, List.length_set, id_eq, Option.some.injEq, V.i.injEq, V.b.injEq, V.own.injEq, Row.mk.injEq, decide_true, decide_eq_true_eq, true_and, and_true, Bool.and_true, Bool.true_and, if_true, if_false, and_self, Nat.reduceLT, Nat.reduceLeDiff, Nat.reduceEqDiff, Nat.reduceAdd, Nat.reduceSub, Nat.reduceMul, Nat.reducePow, Nat.reduceBEq, Int.reduceLE, Int.reduceLT, Int.reduceToNat, Int.reduceEq, Int.reduceNeg, reduceIte, reduceCtorEq] <;> (first | done | trivial | (and_intros <;> first | trivial | omega | assumption)), by simp only [LeFr, LeHp, lkp, V.ren, V.renL, Row.ren, V.lt, V.ltL, renL_u, ltL_u, List.length_append, List.length_cons, List.length_nil, List.length_set, id_eq, Option.some.injEq, V.i.injEq, V.b.injEq, V.own.injEq, Row.mk.injEq, decide_true, decide_eq_true_eq, true_and, and_true, Bool.and_true, Bool.true_and, if_true, if_false, and_self, Nat.reduceLT, Nat.reduceLeDiff, Nat.reduceEqDiff, Nat.reduceAdd, Nat.reduceSub, Nat.reduceMul, Nat.reducePow, Nat.reduceBEq, Int.reduceLE, Int.reduceLT, Int.reduceToNat, Int.reduceEq, Int.reduceNeg, reduceIte, reduceCtorEq] <;> (first | done | trivial | (and_intros <;> first | trivial | omega | assumption)), by simp [Apart], by first | exact Nat.zero_le _ | simp, by intro n hn; first | rfl | exact absurd hn (Nat.not_lt_zero _)⟩
      , ⟨p, q - p, rfl, hp, by omega, by rw [gcd_sub_right hpq, hgp]; exact hod, by rw [gcd_sub_right hpq, hgp]; exact hgg, rfl⟩⟩

end Go.Proofs.Ytlhobedecoeohaa
